/- What the law FnExactAbleCalls stands on: contracts of functions, what each answers as plain Lean, in short form (names, layout). -/
import Derived.Test.YtmimbhooaidelaaGreatSExactAbleCalls3
set_option linter.all false
namespace Go.Proofs.YtmimbhooaidelaaGreat
open Go.RowKit
theorem yBA (es fs : List Way) : yF Tryz.prog yiI [.c (.sl 2 (es.map Way.enc)), .c (.sl 2 (fs.map Way.enc))] (.c (.b (decide (es = fs)))) := by
 refine yt yur (by simp) fun hwf => ?_
 simp -dsimp -implicitDefEqProofs [ynI]
 intro hl1 hl2
 refine ⟨fun h e => h (by rw [e]), fun hlen => ?_⟩
 have hlen' : es.length = fs.length := by omega
 refine yh (ι := Nat) (fun k => k ≤ es.length ∧ es.take k = fs.take k) (fun k => yP [(0, .c (.sl 2 (es.map Way.enc))), (1, .c (.sl 2 (fs.map Way.enc))), (5, .c (.i k))] []) (fun k => es.length - k) 0 (by simp) (by apply yj <;> simp [AV.yc, AV.yA, Obj.yc]) ?_
 rintro k ⟨hk, htk⟩
 rcases Nat.lt_or_ge k es.length with hlt | hge
 ·obtain ⟨e, he⟩ : ∃ e, es[k]? = some e := ⟨_, List.getElem?_eq_getElem hlt⟩
  obtain ⟨f, hf⟩ : ∃ f, fs[k]? = some f := ⟨_, List.getElem?_eq_getElem (by omega)⟩
  simp -dsimp -implicitDefEqProofs [he, hf, yI hlt, yI (hlen' ▸ hlt)]
  intro _
  refine ⟨_, _, yEe e f, by simp, .inr rfl, ?_⟩
  simp -dsimp -implicitDefEqProofs
  refine ⟨fun h => ybl he hf h, fun h => ⟨yu hlt hl1, k + 1, ⟨hlt, yaI he hf htk h⟩, by omega, by apply yj <;> simp [AV.yc, AV.yA, Obj.yc]⟩⟩
 ·simp -dsimp -implicitDefEqProofs [yah hge]
  intro _
  exact ya5 hge hlen' htk
-- []Work
def yfV : List Work → Int → Int := yeY ycN
def yh6 : List Work → Prop := ycr Work.small
theorem yqR : yeU yfV yh6 := yiu ys8
theorem yy4 (xs : List Work) (l : Int) (h0 : 0 ≤ l) (h1 : l ≤ 1048576) : yF Tryz.prog yho [.c (.sl 22 (xs.map Work.enc)), .c (.i l)] (.c (.i (yfV xs l))) := by
 refine yt ytx (by simp) fun hwf => ?_
 simp -dsimp -implicitDefEqProofs [ymR]
 intro hl
 have hs : szS xs.length l = if l - xs.length < 0 then -1 else l - xs.length := rfl
 refine ⟨by unfold maxLen at hl; unfold inI; omega, fun h => ?_, fun h => ?_⟩
 ·simp [yfV, yeY, ybd, hs, h]
 have h' : 0 ≤ l - xs.length := by omega
 have e0 : yfV xs l = yan ycN xs (l - xs.length) := by
  have : szS xs.length l = l - xs.length := by rw [hs, if_neg (by omega)]
  simp only [yfV, yeY]
  rw [this, yw h']
 refine yh (ι := Nat × Int) (fun p => p.1 ≤ xs.length ∧ 0 ≤ p.2 ∧ p.2 ≤ 1048576 ∧ yan ycN (xs.drop p.1) p.2 = yfV xs l) (fun p => yP [(0, .c (.sl 22 (xs.map Work.enc))), (1, .c (.i p.2)), (5, .c (.i p.1))] []) (fun p => xs.length - p.1) (0, l - xs.length) ⟨by simp, h', by simp only; omega, by simp [e0]⟩ (by apply yj <;> simp [AV.yc, AV.yA, Obj.yc]) ?_
 rintro ⟨k, q⟩ ⟨hk, hq0, hq1, hf⟩
 simp only at hk hq0 hq1 hf
 rcases Nat.lt_or_ge k xs.length with hlt | hge
 ·obtain ⟨e, he⟩ : ∃ e, xs[k]? = some e := ⟨_, List.getElem?_eq_getElem hlt⟩
  have hd : xs.drop k = e :: xs.drop (k + 1) := by
   rw [List.drop_eq_getElem_cons hlt, (List.getElem?_eq_some_iff.1 he).2]
  rw [hd, yan] at hf
  simp -dsimp -implicitDefEqProofs [he, yI hlt]
  refine fun _ => yg (yAJ e q hq0 hq1) (by simp) rfl ?_
  simp -dsimp -implicitDefEqProofs
  refine ⟨fun h => by rw [← hf, yM h], fun h => ⟨yu hlt hl, k + 1, ⟨ycN e q, ?_⟩⟩⟩
  rw [yw h] at hf
  have hle : ycN e q ≤ 1048576 := by
   rcases ys8 e q hq0 hq1 with e1 | e1
   ·omega
   ·omega
  exact ⟨⟨hlt, h, hle, hf⟩, by omega, by apply yj <;> simp [AV.yc, AV.yA, Obj.yc]⟩
 ·simp -dsimp -implicitDefEqProofs [yah hge]
  rw [List.drop_of_length_le hge] at hf
  intro _
  first | simpa [yan] using hf | simpa [yan] using hf.symm
theorem yAR (xs : List Work) (hl : yh6 xs) : yF Tryz.prog yel [.c (.sl 22 (xs.map Work.enc))] (.c (.sl 22 (xs.map Work.enc))) := by
 refine yt ymx (by simp) fun hwf => ?_
 simp -dsimp -implicitDefEqProofs [yhz]
 intro hlen
 have hl1 := hl.1
 refine ⟨by omega, ?_⟩
 refine yh (ι := Nat) (fun k => k ≤ xs.length) (fun k => yP [(0, .c (.sl 22 (xs.map Work.enc))), (3, .own 7 22 xs.length), (4, .c (.i k))] [(7, .row 22 (partly Work.enc [.i 0, .i 0, .i 0, .i 0, .i 0, .i 0, .i 0, .i 0, .i 0, .sl 2 [], .i 0, .i 0, .i 0, .i 0, .i 0, .i 0, .i 0, .i 0, .sl 2 [], .b false, .i 0, .sl 4 []] xs k))]) (fun k => xs.length - k) 0 (by simp) (by apply yj <;> simp [AV.yc, AV.yA, Obj.yc, yX]) ?_
 rintro k hk
 rcases Nat.lt_or_ge k xs.length with hlt | hge
 ·obtain ⟨e, he⟩ : ∃ e, xs[k]? = some e := ⟨_, List.getElem?_eq_getElem hlt⟩
  have hs := yae (f := Work.enc) (z := [.i 0, .i 0, .i 0, .i 0, .i 0, .i 0, .i 0, .i 0, .i 0, .sl 2 [], .i 0, .i 0, .i 0, .i 0, .i 0, .i 0, .i 0, .i 0, .sl 2 [], .b false, .i 0, .sl 4 []]) he
  have hd := yam (f := Work.enc) (z := [.i 0, .i 0, .i 0, .i 0, .i 0, .i 0, .i 0, .i 0, .i 0, .sl 2 [], .i 0, .i 0, .i 0, .i 0, .i 0, .i 0, .i 0, .i 0, .sl 2 [], .b false, .i 0, .sl 4 []]) (n := 22) rfl hlt
  simp only [Work.enc, Lock.enc, Weir.enc, Rule.enc, Turn.enc] at hs
  simp -dsimp -implicitDefEqProofs [he, yI hlt]
  refine fun _ => yJ (yDl e (hl.2 e (List.mem_of_getElem? he))) (by simp) rfl ?_
  simp -dsimp -implicitDefEqProofs [yI hlt, yaf hk, hd, hs]
  exact ⟨hlt, yu hlt hlen, k + 1, hlt, by omega, by apply yj <;> simp [AV.yc, AV.yA, Obj.yc]⟩
 ·simp -dsimp -implicitDefEqProofs [yah hge]
  intro _
  rw [yad hge, List.take_of_length_le (by simp)]
theorem yAM (es fs : List Work) : yF Tryz.prog yhn [.c (.sl 22 (es.map Work.enc)), .c (.sl 22 (fs.map Work.enc))] (.c (.b (decide (es = fs)))) := by
 refine yt ytc (by simp) fun hwf => ?_
 simp -dsimp -implicitDefEqProofs [ym1]
 intro hl1 hl2
 refine ⟨fun h e => h (by rw [e]), fun hlen => ?_⟩
 have hlen' : es.length = fs.length := by omega
 refine yh (ι := Nat) (fun k => k ≤ es.length ∧ es.take k = fs.take k) (fun k => yP [(0, .c (.sl 22 (es.map Work.enc))), (1, .c (.sl 22 (fs.map Work.enc))), (5, .c (.i k))] []) (fun k => es.length - k) 0 (by simp) (by apply yj <;> simp [AV.yc, AV.yA, Obj.yc]) ?_
 rintro k ⟨hk, htk⟩
 rcases Nat.lt_or_ge k es.length with hlt | hge
 ·obtain ⟨e, he⟩ : ∃ e, es[k]? = some e := ⟨_, List.getElem?_eq_getElem hlt⟩
  obtain ⟨f, hf⟩ : ∃ f, fs[k]? = some f := ⟨_, List.getElem?_eq_getElem (by omega)⟩
  simp -dsimp -implicitDefEqProofs [he, hf, yI hlt, yI (hlen' ▸ hlt)]
  intro _
  refine ⟨_, _, yC4 e f, by simp, .inr rfl, ?_⟩
  simp -dsimp -implicitDefEqProofs
  refine ⟨fun h => ybl he hf h, fun h => ⟨yu hlt hl1, k + 1, ⟨hlt, yaI he hf htk h⟩, by omega, by apply yj <;> simp [AV.yc, AV.yA, Obj.yc]⟩⟩
 ·simp -dsimp -implicitDefEqProofs [yah hge]
  intro _
  exact ya5 hge hlen' htk
-- []Mover
def ybL : List Mover → Int → Int := yeY ycx
def yjS : List Mover → Prop := ycr Mover.small
theorem ypI : yeU ybL yjS := yiu yqr
theorem yx8 (xs : List Mover) (l : Int) (h0 : 0 ≤ l) (h1 : l ≤ 1048576) : yF Tryz.prog ygc [.c (.sl 3 (xs.map Mover.enc)), .c (.i l)] (.c (.i (ybL xs l))) := by
 refine yt yrg (by simp) fun hwf => ?_
 simp -dsimp -implicitDefEqProofs [yk2]
 intro hl
 have hs : szS xs.length l = if l - xs.length < 0 then -1 else l - xs.length := rfl
 refine ⟨by unfold maxLen at hl; unfold inI; omega, fun h => ?_, fun h => ?_⟩
 ·simp [ybL, yeY, ybd, hs, h]
 have h' : 0 ≤ l - xs.length := by omega
 have e0 : ybL xs l = yan ycx xs (l - xs.length) := by
  have : szS xs.length l = l - xs.length := by rw [hs, if_neg (by omega)]
  simp only [ybL, yeY]
  rw [this, yw h']
 refine yh (ι := Nat × Int) (fun p => p.1 ≤ xs.length ∧ 0 ≤ p.2 ∧ p.2 ≤ 1048576 ∧ yan ycx (xs.drop p.1) p.2 = ybL xs l) (fun p => yP [(0, .c (.sl 3 (xs.map Mover.enc))), (1, .c (.i p.2)), (5, .c (.i p.1))] []) (fun p => xs.length - p.1) (0, l - xs.length) ⟨by simp, h', by simp only; omega, by simp [e0]⟩ (by apply yj <;> simp [AV.yc, AV.yA, Obj.yc]) ?_
 rintro ⟨k, q⟩ ⟨hk, hq0, hq1, hf⟩
 simp only at hk hq0 hq1 hf
 rcases Nat.lt_or_ge k xs.length with hlt | hge
 ·obtain ⟨e, he⟩ : ∃ e, xs[k]? = some e := ⟨_, List.getElem?_eq_getElem hlt⟩
  have hd : xs.drop k = e :: xs.drop (k + 1) := by
   rw [List.drop_eq_getElem_cons hlt, (List.getElem?_eq_some_iff.1 he).2]
  rw [hd, yan] at hf
  simp -dsimp -implicitDefEqProofs [he, yI hlt]
  refine fun _ => yg (yyQ e q hq0 hq1) (by simp) rfl ?_
  simp -dsimp -implicitDefEqProofs
  refine ⟨fun h => by rw [← hf, yM h], fun h => ⟨yu hlt hl, k + 1, ⟨ycx e q, ?_⟩⟩⟩
  rw [yw h] at hf
  have hle : ycx e q ≤ 1048576 := by
   rcases yqr e q hq0 hq1 with e1 | e1
   ·omega
   ·omega
  exact ⟨⟨hlt, h, hle, hf⟩, by omega, by apply yj <;> simp [AV.yc, AV.yA, Obj.yc]⟩
 ·simp -dsimp -implicitDefEqProofs [yah hge]
  rw [List.drop_of_length_le hge] at hf
  intro _
  first | simpa [yan] using hf | simpa [yan] using hf.symm
theorem yy2 (xs : List Mover) (hl : yjS xs) : yF Tryz.prog ydH [.c (.sl 3 (xs.map Mover.enc))] (.c (.sl 3 (xs.map Mover.enc))) := by
 refine yt ylc (by simp) fun hwf => ?_
 simp -dsimp -implicitDefEqProofs [yf8]
 intro hlen
 have hl1 := hl.1
 refine ⟨by omega, ?_⟩
 refine yh (ι := Nat) (fun k => k ≤ xs.length) (fun k => yP [(0, .c (.sl 3 (xs.map Mover.enc))), (3, .own 7 3 xs.length), (4, .c (.i k))] [(7, .row 3 (partly Mover.enc [.b false, .sl 1 [], .i 0] xs k))]) (fun k => xs.length - k) 0 (by simp) (by apply yj <;> simp [AV.yc, AV.yA, Obj.yc, yX]) ?_
 rintro k hk
 rcases Nat.lt_or_ge k xs.length with hlt | hge
 ·obtain ⟨e, he⟩ : ∃ e, xs[k]? = some e := ⟨_, List.getElem?_eq_getElem hlt⟩
  have hs := yae (f := Mover.enc) (z := [.b false, .sl 1 [], .i 0]) he
  have hd := yam (f := Mover.enc) (z := [.b false, .sl 1 [], .i 0]) (n := 3) rfl hlt
  simp only [Mover.enc, Train.enc] at hs
  simp -dsimp -implicitDefEqProofs [he, yI hlt]
  refine fun _ => yJ (yAo e (hl.2 e (List.mem_of_getElem? he))) (by simp) rfl ?_
  simp -dsimp -implicitDefEqProofs [yI hlt, yaf hk, hd, hs]
  exact ⟨hlt, yu hlt hlen, k + 1, hlt, by omega, by apply yj <;> simp [AV.yc, AV.yA, Obj.yc]⟩
 ·simp -dsimp -implicitDefEqProofs [yah hge]
  intro _
  rw [yad hge, List.take_of_length_le (by simp)]
theorem yyJ (es fs : List Mover) : yF Tryz.prog ygl [.c (.sl 3 (es.map Mover.enc)), .c (.sl 3 (fs.map Mover.enc))] (.c (.b (decide (es = fs)))) := by
 refine yt yrm (by simp) fun hwf => ?_
 simp -dsimp -implicitDefEqProofs [ylw]
 intro hl1 hl2
 refine ⟨fun h e => h (by rw [e]), fun hlen => ?_⟩
 have hlen' : es.length = fs.length := by omega
 refine yh (ι := Nat) (fun k => k ≤ es.length ∧ es.take k = fs.take k) (fun k => yP [(0, .c (.sl 3 (es.map Mover.enc))), (1, .c (.sl 3 (fs.map Mover.enc))), (5, .c (.i k))] []) (fun k => es.length - k) 0 (by simp) (by apply yj <;> simp [AV.yc, AV.yA, Obj.yc]) ?_
 rintro k ⟨hk, htk⟩
 rcases Nat.lt_or_ge k es.length with hlt | hge
 ·obtain ⟨e, he⟩ : ∃ e, es[k]? = some e := ⟨_, List.getElem?_eq_getElem hlt⟩
  obtain ⟨f, hf⟩ : ∃ f, fs[k]? = some f := ⟨_, List.getElem?_eq_getElem (by omega)⟩
  simp -dsimp -implicitDefEqProofs [he, hf, yI hlt, yI (hlen' ▸ hlt)]
  intro _
  refine ⟨_, _, yAL e f, by simp, .inr rfl, ?_⟩
  simp -dsimp -implicitDefEqProofs
  refine ⟨fun h => ybl he hf h, fun h => ⟨yu hlt hl1, k + 1, ⟨hlt, yaI he hf htk h⟩, by omega, by apply yj <;> simp [AV.yc, AV.yA, Obj.yc]⟩⟩
 ·simp -dsimp -implicitDefEqProofs [yah hge]
  intro _
  exact ya5 hge hlen' htk
abbrev yav (xs : List Mover) : List C := [.sl 3 (xs.map Mover.enc)]
-- [][]Mover
def ycT : List (List Mover) → Int → Int := yeY ybL
def yfH : List (List Mover) → Prop := ycr yjS
theorem yoa : yeU ycT yfH := yiu ypI
theorem ywp (xs : List (List Mover)) (l : Int) (h0 : 0 ≤ l) (h1 : l ≤ 1048576) : yF Tryz.prog yfp [.c (.sl 1 (xs.map yav)), .c (.i l)] (.c (.i (ycT xs l))) := by
 refine yt ypS (by simp) fun hwf => ?_
 simp -dsimp -implicitDefEqProofs [yjj]
 intro hl
 have hs : szS xs.length l = if l - xs.length < 0 then -1 else l - xs.length := rfl
 refine ⟨by unfold maxLen at hl; unfold inI; omega, fun h => ?_, fun h => ?_⟩
 ·simp [ycT, yeY, ybd, hs, h]
 have h' : 0 ≤ l - xs.length := by omega
 have e0 : ycT xs l = yan ybL xs (l - xs.length) := by
  have : szS xs.length l = l - xs.length := by rw [hs, if_neg (by omega)]
  simp only [ycT, yeY]
  rw [this, yw h']
 refine yh (ι := Nat × Int) (fun p => p.1 ≤ xs.length ∧ 0 ≤ p.2 ∧ p.2 ≤ 1048576 ∧ yan ybL (xs.drop p.1) p.2 = ycT xs l) (fun p => yP [(0, .c (.sl 1 (xs.map yav))), (1, .c (.i p.2)), (5, .c (.i p.1))] []) (fun p => xs.length - p.1) (0, l - xs.length) ⟨by simp, h', by simp only; omega, by simp [e0]⟩ (by apply yj <;> simp [AV.yc, AV.yA, Obj.yc]) ?_
 rintro ⟨k, q⟩ ⟨hk, hq0, hq1, hf⟩
 simp only at hk hq0 hq1 hf
 rcases Nat.lt_or_ge k xs.length with hlt | hge
 ·obtain ⟨e, he⟩ : ∃ e, xs[k]? = some e := ⟨_, List.getElem?_eq_getElem hlt⟩
  have hd : xs.drop k = e :: xs.drop (k + 1) := by
   rw [List.drop_eq_getElem_cons hlt, (List.getElem?_eq_some_iff.1 he).2]
  rw [hd, yan] at hf
  simp -dsimp -implicitDefEqProofs [he, yI hlt]
  refine fun _ => yg (yx8 e q hq0 hq1) (by simp) rfl ?_
  simp -dsimp -implicitDefEqProofs
  refine ⟨fun h => by rw [← hf, yM h], fun h => ⟨yu hlt hl, k + 1, ⟨ybL e q, ?_⟩⟩⟩
  rw [yw h] at hf
  have hle : ybL e q ≤ 1048576 := by
   rcases ypI e q hq0 hq1 with e1 | e1
   ·omega
   ·omega
  exact ⟨⟨hlt, h, hle, hf⟩, by omega, by apply yj <;> simp [AV.yc, AV.yA, Obj.yc]⟩
 ·simp -dsimp -implicitDefEqProofs [yah hge]
  rw [List.drop_of_length_le hge] at hf
  intro _
  first | simpa [yan] using hf | simpa [yan] using hf.symm
theorem yxe (xs : List (List Mover)) (hl : yfH xs) : yF Tryz.prog yda [.c (.sl 1 (xs.map yav))] (.c (.sl 1 (xs.map yav))) := by
 refine yt yjh (by simp) fun hwf => ?_
 simp -dsimp -implicitDefEqProofs [yfj]
 intro hlen
 have hl1 := hl.1
 refine ⟨by omega, ?_⟩
 refine yh (ι := Nat) (fun k => k ≤ xs.length) (fun k => yP [(0, .c (.sl 1 (xs.map yav))), (3, .own 7 1 xs.length), (4, .c (.i k))] [(7, .row 1 (partly yav [.sl 3 []] xs k))]) (fun k => xs.length - k) 0 (by simp) (by apply yj <;> simp [AV.yc, AV.yA, Obj.yc, yX]) ?_
 rintro k hk
 rcases Nat.lt_or_ge k xs.length with hlt | hge
 ·obtain ⟨e, he⟩ : ∃ e, xs[k]? = some e := ⟨_, List.getElem?_eq_getElem hlt⟩
  have hs := yae (f := yav) (z := [.sl 3 []]) he
  have hd : ((partly yav [.sl 3 []] xs k)[k]?.getD []).set 0 (.sl 3 (e.map Mover.enc)) = [.sl 3 (e.map Mover.enc)] := by
   have := yfk (f := yav) (z := [.sl 3 []]) (n := 1) rfl (fun _ => rfl) hlt
   obtain ⟨x, hx⟩ := List.length_eq_one_iff.1 this
   rw [hx]; rfl
  have hs2 : (partly yav [.sl 3 []] xs k).set k [.sl 3 (e.map Mover.enc)] = partly yav [.sl 3 []] xs (k + 1) := hs
  simp -dsimp -implicitDefEqProofs [he, yI hlt]
  refine fun _ => yJ (yy2 e (hl.2 e (List.mem_of_getElem? he))) (by simp) rfl ?_
  simp -dsimp -implicitDefEqProofs [yI hlt, yaf hk, hd, hs2]
  exact ⟨hlt, yu hlt hlen, k + 1, hlt, by omega, by apply yj <;> simp [AV.yc, AV.yA, Obj.yc]⟩
 ·simp -dsimp -implicitDefEqProofs [yah hge]
  intro _
  rw [yad hge, List.take_of_length_le (by simp)]
theorem ywU (es fs : List (List Mover)) : yF Tryz.prog yfr [.c (.sl 1 (es.map yav)), .c (.sl 1 (fs.map yav))] (.c (.b (decide (es = fs)))) := by
 refine yt yp2 (by simp) fun hwf => ?_
 simp -dsimp -implicitDefEqProofs [yjg]
 intro hl1 hl2
 refine ⟨fun h e => h (by rw [e]), fun hlen => ?_⟩
 have hlen' : es.length = fs.length := by omega
 refine yh (ι := Nat) (fun k => k ≤ es.length ∧ es.take k = fs.take k) (fun k => yP [(0, .c (.sl 1 (es.map yav))), (1, .c (.sl 1 (fs.map yav))), (5, .c (.i k))] []) (fun k => es.length - k) 0 (by simp) (by apply yj <;> simp [AV.yc, AV.yA, Obj.yc]) ?_
 rintro k ⟨hk, htk⟩
 rcases Nat.lt_or_ge k es.length with hlt | hge
 ·obtain ⟨e, he⟩ : ∃ e, es[k]? = some e := ⟨_, List.getElem?_eq_getElem hlt⟩
  obtain ⟨f, hf⟩ : ∃ f, fs[k]? = some f := ⟨_, List.getElem?_eq_getElem (by omega)⟩
  simp -dsimp -implicitDefEqProofs [he, hf, yI hlt, yI (hlen' ▸ hlt)]
  intro _
  refine ⟨_, _, yyJ e f, by simp, .inr rfl, ?_⟩
  simp -dsimp -implicitDefEqProofs
  refine ⟨fun h => ybl he hf h, fun h => ⟨yu hlt hl1, k + 1, ⟨hlt, yaI he hf htk h⟩, by omega, by apply yj <;> simp [AV.yc, AV.yA, Obj.yc]⟩⟩
 ·simp -dsimp -implicitDefEqProofs [yah hge]
  intro _
  exact ya5 hge hlen' htk
structure Passing where
 Time : Int
 Work : Int
 Train : Train
 deriving DecidableEq, Inhabited
@[simp] def Passing.enc (e : Passing) : List C := [.i e.Time, .i e.Work, .b e.Train.Up, .sl 1 (e.Train.Rows.map yV)]
-- Passing
def ybo (e : Passing) (l : Int) : Int := ybd (ybC e.Train l) fun l => l
def Passing.small (e : Passing) : Prop := e.Train.small
theorem ynN : yeU ybo Passing.small := by
 intro e l h0 h1
 unfold ybo
 rcases yfO e.Train _ h0 h1 with e0 | ⟨a0, b0, s0⟩
 ·exact .inl (yM (by omega))
 rw [yw a0]
 exact .inr ⟨a0, by omega, s0⟩
theorem yvY (e : Passing) (l : Int) (h0 : 0 ≤ l) (h1 : l ≤ 1048576) : yF Tryz.prog ye6 [.agg (e.enc.map .c), .c (.i l)] (.c (.i (ybo e l))) := by
 refine yt yqa (by simp) fun hwf => ?_
 simp -dsimp -implicitDefEqProofs [yjl]
 refine yg (ykj e.Train _ h0 h1) (by simp) rfl ?_
 simp -dsimp -implicitDefEqProofs
 refine ⟨fun h => by simp [ybo, yM h], fun p0 => ?_⟩
 simp [ybo, yw p0]
theorem yxi (e : Passing) (hl : Passing.small e) : yF Tryz.prog yc5 [.agg (e.enc.map .c)] (.agg (e.enc.map .c)) := by
 refine yt yjm (by simp) fun hwf => ?_
 simp -dsimp -implicitDefEqProofs [yfe]
 refine yJ (ynp e.Train hl) (by simp) rfl ?_
 simp -dsimp -implicitDefEqProofs
theorem yyk (a b : Passing) : yF Tryz.prog yfh [.agg (a.enc.map .c), .agg (b.enc.map .c)] (.c (.b (decide (a = b)))) := by
 refine yt yp0 (by simp) fun hwf => ?_
 obtain ⟨a0, a1, a2⟩ := a
 obtain ⟨b0, b1, b2⟩ := b
 simp -dsimp -implicitDefEqProofs [yji, Passing.mk.injEq]
 refine ⟨fun h => by simp_all, fun h0 => ?_⟩
 refine ⟨fun h => by simp_all, fun h1 => ?_⟩
 refine yg (ym9 a2 b2) (by simp) rfl ?_
 simp -dsimp -implicitDefEqProofs
 refine ⟨fun h => by simp_all, fun h2 => ?_⟩
 simp_all
-- []Passing
def ycm : List Passing → Int → Int := yeY ybo
def yeK : List Passing → Prop := ycr Passing.small
theorem yrV : yeU ycm yeK := yiu ynN
theorem yuM (xs : List Passing) (l : Int) (h0 : 0 ≤ l) (h1 : l ≤ 1048576) : yF Tryz.prog yeS [.c (.sl 4 (xs.map Passing.enc)), .c (.i l)] (.c (.i (ycm xs l))) := by
 refine yt yo2 (by simp) fun hwf => ?_
 simp -dsimp -implicitDefEqProofs [yiv]
 intro hl
 have hs : szS xs.length l = if l - xs.length < 0 then -1 else l - xs.length := rfl
 refine ⟨by unfold maxLen at hl; unfold inI; omega, fun h => ?_, fun h => ?_⟩
 ·simp [ycm, yeY, ybd, hs, h]
 have h' : 0 ≤ l - xs.length := by omega
 have e0 : ycm xs l = yan ybo xs (l - xs.length) := by
  have : szS xs.length l = l - xs.length := by rw [hs, if_neg (by omega)]
  simp only [ycm, yeY]
  rw [this, yw h']
 refine yh (ι := Nat × Int) (fun p => p.1 ≤ xs.length ∧ 0 ≤ p.2 ∧ p.2 ≤ 1048576 ∧ yan ybo (xs.drop p.1) p.2 = ycm xs l) (fun p => yP [(0, .c (.sl 4 (xs.map Passing.enc))), (1, .c (.i p.2)), (5, .c (.i p.1))] []) (fun p => xs.length - p.1) (0, l - xs.length) ⟨by simp, h', by simp only; omega, by simp [e0]⟩ (by apply yj <;> simp [AV.yc, AV.yA, Obj.yc]) ?_
 rintro ⟨k, q⟩ ⟨hk, hq0, hq1, hf⟩
 simp only at hk hq0 hq1 hf
 rcases Nat.lt_or_ge k xs.length with hlt | hge
 ·obtain ⟨e, he⟩ : ∃ e, xs[k]? = some e := ⟨_, List.getElem?_eq_getElem hlt⟩
  have hd : xs.drop k = e :: xs.drop (k + 1) := by
   rw [List.drop_eq_getElem_cons hlt, (List.getElem?_eq_some_iff.1 he).2]
  rw [hd, yan] at hf
  simp -dsimp -implicitDefEqProofs [he, yI hlt]
  refine fun _ => yg (yvY e q hq0 hq1) (by simp) rfl ?_
  simp -dsimp -implicitDefEqProofs
  refine ⟨fun h => by rw [← hf, yM h], fun h => ⟨yu hlt hl, k + 1, ⟨ybo e q, ?_⟩⟩⟩
  rw [yw h] at hf
  have hle : ybo e q ≤ 1048576 := by
   rcases ynN e q hq0 hq1 with e1 | e1
   ·omega
   ·omega
  exact ⟨⟨hlt, h, hle, hf⟩, by omega, by apply yj <;> simp [AV.yc, AV.yA, Obj.yc]⟩
 ·simp -dsimp -implicitDefEqProofs [yah hge]
  rw [List.drop_of_length_le hge] at hf
  intro _
  first | simpa [yan] using hf | simpa [yan] using hf.symm
theorem ywc (xs : List Passing) (hl : yeK xs) : yF Tryz.prog ycM [.c (.sl 4 (xs.map Passing.enc))] (.c (.sl 4 (xs.map Passing.enc))) := by
 refine yt yic (by simp) fun hwf => ?_
 simp -dsimp -implicitDefEqProofs [yex]
 intro hlen
 have hl1 := hl.1
 refine ⟨by omega, ?_⟩
 refine yh (ι := Nat) (fun k => k ≤ xs.length) (fun k => yP [(0, .c (.sl 4 (xs.map Passing.enc))), (3, .own 7 4 xs.length), (4, .c (.i k))] [(7, .row 4 (partly Passing.enc [.i 0, .i 0, .b false, .sl 1 []] xs k))]) (fun k => xs.length - k) 0 (by simp) (by apply yj <;> simp [AV.yc, AV.yA, Obj.yc, yX]) ?_
 rintro k hk
 rcases Nat.lt_or_ge k xs.length with hlt | hge
 ·obtain ⟨e, he⟩ : ∃ e, xs[k]? = some e := ⟨_, List.getElem?_eq_getElem hlt⟩
  have hs := yae (f := Passing.enc) (z := [.i 0, .i 0, .b false, .sl 1 []]) he
  have hd := yam (f := Passing.enc) (z := [.i 0, .i 0, .b false, .sl 1 []]) (n := 4) rfl hlt
  simp only [Passing.enc, Train.enc] at hs
  simp -dsimp -implicitDefEqProofs [he, yI hlt]
  refine fun _ => yJ (yxi e (hl.2 e (List.mem_of_getElem? he))) (by simp) rfl ?_
  simp -dsimp -implicitDefEqProofs [yI hlt, yaf hk, hd, hs]
  exact ⟨hlt, yu hlt hlen, k + 1, hlt, by omega, by apply yj <;> simp [AV.yc, AV.yA, Obj.yc]⟩
 ·simp -dsimp -implicitDefEqProofs [yah hge]
  intro _
  rw [yad hge, List.take_of_length_le (by simp)]
theorem yv6 (es fs : List Passing) : yF Tryz.prog yeu [.c (.sl 4 (es.map Passing.enc)), .c (.sl 4 (fs.map Passing.enc))] (.c (.b (decide (es = fs)))) := by
 refine yt ypf (by simp) fun hwf => ?_
 simp -dsimp -implicitDefEqProofs [yik]
 intro hl1 hl2
 refine ⟨fun h e => h (by rw [e]), fun hlen => ?_⟩
 have hlen' : es.length = fs.length := by omega
 refine yh (ι := Nat) (fun k => k ≤ es.length ∧ es.take k = fs.take k) (fun k => yP [(0, .c (.sl 4 (es.map Passing.enc))), (1, .c (.sl 4 (fs.map Passing.enc))), (5, .c (.i k))] []) (fun k => es.length - k) 0 (by simp) (by apply yj <;> simp [AV.yc, AV.yA, Obj.yc]) ?_
 rintro k ⟨hk, htk⟩
 rcases Nat.lt_or_ge k es.length with hlt | hge
 ·obtain ⟨e, he⟩ : ∃ e, es[k]? = some e := ⟨_, List.getElem?_eq_getElem hlt⟩
  obtain ⟨f, hf⟩ : ∃ f, fs[k]? = some f := ⟨_, List.getElem?_eq_getElem (by omega)⟩
  simp -dsimp -implicitDefEqProofs [he, hf, yI hlt, yI (hlen' ▸ hlt)]
  intro _
  refine ⟨_, _, yyk e f, by simp, .inr rfl, ?_⟩
  simp -dsimp -implicitDefEqProofs
  refine ⟨fun h => ybl he hf h, fun h => ⟨yu hlt hl1, k + 1, ⟨hlt, yaI he hf htk h⟩, by omega, by apply yj <;> simp [AV.yc, AV.yA, Obj.yc]⟩⟩
 ·simp -dsimp -implicitDefEqProofs [yah hge]
  intro _
  exact ya5 hge hlen' htk
structure Waterway where
 Time : Int
 Reaches : List Reach
 Ways : List Way
 Works : List Work
 Movers : List (List Mover)
 Arrived : List Train
 Entered : List Int
 Tariff : Tariff
 Book : List Entry
 Passings : List Passing
 Start : Int
 In : Int
 Out : Int
 deriving DecidableEq
@[simp] def Waterway.enc (e : Waterway) : List C := [.i e.Time, .sl 3 (e.Reaches.map Reach.enc), .sl 2 (e.Ways.map Way.enc), .sl 22 (e.Works.map Work.enc), .sl 1 (e.Movers.map yav), .sl 2 (e.Arrived.map Train.enc), .sl 1 (e.Entered.map yac), .i e.Tariff.Base, .i e.Tariff.PerArea, .sl 1 (e.Tariff.PerClass.map yac), .sl 1 (e.Tariff.Weights.map yac), .sl 5 (e.Book.map Entry.enc), .sl 4 (e.Passings.map Passing.enc), .i e.Start, .i e.In, .i e.Out]
-- Waterway
def yaK (e : Waterway) (l : Int) : Int := ybd (yd6 e.Reaches l) fun l => ybd (ypr e.Ways l) fun l => ybd (yfV e.Works l) fun l => ybd (ycT e.Movers l) fun l => ybd (yc3 e.Arrived l) fun l => ybd (ykO e.Entered l) fun l => ybd (ydb e.Tariff l) fun l => ybd (yjP e.Book l) fun l => ybd (ycm e.Passings l) fun l => l
def Waterway.small (e : Waterway) : Prop := ygT e.Reaches ∧ yjV e.Ways ∧ yh6 e.Works ∧ yfH e.Movers ∧ ya9 e.Arrived ∧ yow e.Entered ∧ e.Tariff.small ∧ yoT e.Book ∧ yeK e.Passings
theorem yrL : yeU yaK Waterway.small := by
 intro e l h0 h1
 unfold yaK
 rcases ypF e.Reaches _ h0 h1 with e0 | ⟨a0, b0, s0⟩
 ·exact .inl (yM (by omega))
 rw [yw a0]
 rcases ytz e.Ways _ a0 (by omega) with e1 | ⟨a1, b1, s1⟩
 ·exact .inl (yM (by omega))
 rw [yw a1]
 rcases yqR e.Works _ a1 (by omega) with e2 | ⟨a2, b2, s2⟩
 ·exact .inl (yM (by omega))
 rw [yw a2]
 rcases yoa e.Movers _ a2 (by omega) with e3 | ⟨a3, b3, s3⟩
 ·exact .inl (yM (by omega))
 rw [yw a3]
 rcases ykA e.Arrived _ a3 (by omega) with e4 | ⟨a4, b4, s4⟩
 ·exact .inl (yM (by omega))
 rw [yw a4]
 rcases yfA e.Entered _ a4 (by omega) with e5 | ⟨a5, b5, s5⟩
 ·exact .inl (yM (by omega))
 rw [yw a5]
 rcases ypc e.Tariff _ a5 (by omega) with e6 | ⟨a6, b6, s6⟩
 ·exact .inl (yM (by omega))
 rw [yw a6]
 rcases ypd e.Book _ a6 (by omega) with e7 | ⟨a7, b7, s7⟩
 ·exact .inl (yM (by omega))
 rw [yw a7]
 rcases yrV e.Passings _ a7 (by omega) with e8 | ⟨a8, b8, s8⟩
 ·exact .inl (yM (by omega))
 rw [yw a8]
 exact .inr ⟨a8, by omega, s0, s1, s2, s3, s4, s5, s6, s7, s8⟩
theorem ytZ (e : Waterway) (l : Int) (h0 : 0 ≤ l) (h1 : l ≤ 1048576) : yF Tryz.prog yeA [.agg (e.enc.map .c), .c (.i l)] (.c (.i (yaK e l))) := by
 refine yt ypp (by simp) fun hwf => ?_
 simp -dsimp -implicitDefEqProofs [yim]
 refine yg (yx7 e.Reaches _ h0 h1) (by simp) rfl ?_
 simp -dsimp -implicitDefEqProofs
 refine ⟨fun h => by simp [yaK, yM h], fun p0 => ?_⟩
 have q0 := yll ypF e.Reaches h0 h1 p0
 refine yg (yAK e.Ways _ p0 q0) (by simp) rfl ?_
 simp -dsimp -implicitDefEqProofs
 refine ⟨fun h => by simp [yaK, yw p0, yM h], fun p1 => ?_⟩
 have q1 := yll ytz e.Ways p0 q0 p1
 refine yg (yy4 e.Works _ p1 q1) (by simp) rfl ?_
 simp -dsimp -implicitDefEqProofs
 refine ⟨fun h => by simp [yaK, yw p0, yw p1, yM h], fun p2 => ?_⟩
 have q2 := yll yqR e.Works p1 q1 p2
 refine yg (ywp e.Movers _ p2 q2) (by simp) rfl ?_
 simp -dsimp -implicitDefEqProofs
 refine ⟨fun h => by simp [yaK, yw p0, yw p1, yw p2, yM h], fun p3 => ?_⟩
 have q3 := yll yoa e.Movers p2 q2 p3
 refine yg (yqI e.Arrived _ p3 q3) (by simp) rfl ?_
 simp -dsimp -implicitDefEqProofs
 refine ⟨fun h => by simp [yaK, yw p0, yw p1, yw p2, yw p3, yM h], fun p4 => ?_⟩
 have q4 := yll ykA e.Arrived p3 q3 p4
 refine yg (ynq e.Entered _ p4 q4) (by simp) rfl ?_
 simp -dsimp -implicitDefEqProofs
 refine ⟨fun h => by simp [yaK, yw p0, yw p1, yw p2, yw p3, yw p4, yM h], fun p5 => ?_⟩
 have q5 := yll yfA e.Entered p4 q4 p5
 refine yg (yym e.Tariff _ p5 q5) (by simp) rfl ?_
 simp -dsimp -implicitDefEqProofs
 refine ⟨fun h => by simp [yaK, yw p0, yw p1, yw p2, yw p3, yw p4, yw p5, yM h], fun p6 => ?_⟩
 have q6 := yll ypc e.Tariff p5 q5 p6
 refine yg (yxV e.Book _ p6 q6) (by simp) rfl ?_
 simp -dsimp -implicitDefEqProofs
 refine ⟨fun h => by simp [yaK, yw p0, yw p1, yw p2, yw p3, yw p4, yw p5, yw p6, yM h], fun p7 => ?_⟩
 have q7 := yll ypd e.Book p6 q6 p7
 refine yg (yuM e.Passings _ p7 q7) (by simp) rfl ?_
 simp -dsimp -implicitDefEqProofs
 refine ⟨fun h => by simp [yaK, yw p0, yw p1, yw p2, yw p3, yw p4, yw p5, yw p6, yw p7, yM h], fun p8 => ?_⟩
 simp [yaK, yw p0, yw p1, yw p2, yw p3, yw p4, yw p5, yw p6, yw p7, yw p8]
theorem ykv (e : Waterway) (hl : Waterway.small e) : yF Tryz.prog ya6 [.agg (e.enc.map .c)] (.agg (e.enc.map .c)) := by
 refine yt yih (by simp) fun hwf => ?_
 simp -dsimp -implicitDefEqProofs [yev]
 refine yJ (yzx e.Reaches (hl.1)) (by simp) rfl ?_
 simp -dsimp -implicitDefEqProofs
 refine yJ (yCs e.Ways (hl.2.1)) (by simp) rfl ?_
 simp -dsimp -implicitDefEqProofs
 refine yJ (yAR e.Works (hl.2.2.1)) (by simp) rfl ?_
 simp -dsimp -implicitDefEqProofs
 refine yJ (yxe e.Movers (hl.2.2.2.1)) (by simp) rfl ?_
 simp -dsimp -implicitDefEqProofs
 refine yJ (ysY e.Arrived (hl.2.2.2.2.1)) (by simp) rfl ?_
 simp -dsimp -implicitDefEqProofs
 refine yJ (ypw e.Entered (hl.2.2.2.2.2.1.1)) (by simp) rfl ?_
 simp -dsimp -implicitDefEqProofs
 refine yJ (yzm e.Tariff (hl.2.2.2.2.2.2.1)) (by simp) rfl ?_
 simp -dsimp -implicitDefEqProofs
 refine yJ (yzp e.Book (hl.2.2.2.2.2.2.2.1.1)) (by simp) rfl ?_
 simp -dsimp -implicitDefEqProofs
 refine yJ (ywc e.Passings (hl.2.2.2.2.2.2.2.2)) (by simp) rfl ?_
 simp -dsimp -implicitDefEqProofs
theorem yv5 (a b : Waterway) : yF Tryz.prog yen [.agg (a.enc.map .c), .agg (b.enc.map .c)] (.c (.b (decide (a = b)))) := by
 refine yt ypB (by simp) fun hwf => ?_
 obtain ⟨a0, a1, a2, a3, a4, a5, a6, a7, a8, a9, a10, a11, a12⟩ := a
 obtain ⟨b0, b1, b2, b3, b4, b5, b6, b7, b8, b9, b10, b11, b12⟩ := b
 simp -dsimp -implicitDefEqProofs [yh8, Waterway.mk.injEq]
 refine ⟨fun h => by simp_all, fun h0 => ?_⟩
 refine yg (yzF a1 b1) (by simp) rfl ?_
 simp -dsimp -implicitDefEqProofs
 refine ⟨fun h => by simp_all, fun h1 => ?_⟩
 refine yg (yBA a2 b2) (by simp) rfl ?_
 simp -dsimp -implicitDefEqProofs
 refine ⟨fun h => by simp_all, fun h2 => ?_⟩
 refine yg (yAM a3 b3) (by simp) rfl ?_
 simp -dsimp -implicitDefEqProofs
 refine ⟨fun h => by simp_all, fun h3 => ?_⟩
 refine yg (ywU a4 b4) (by simp) rfl ?_
 simp -dsimp -implicitDefEqProofs
 refine ⟨fun h => by simp_all, fun h4 => ?_⟩
 refine yg (ysj a5 b5) (by simp) rfl ?_
 simp -dsimp -implicitDefEqProofs
 refine ⟨fun h => by simp_all, fun h5 => ?_⟩
 refine yg (yo4 a6 b6) (by simp) rfl ?_
 simp -dsimp -implicitDefEqProofs
 refine ⟨fun h => by simp_all, fun h6 => ?_⟩
 refine yg (yzG a7 b7) (by simp) rfl ?_
 simp -dsimp -implicitDefEqProofs
 refine ⟨fun h => by simp_all, fun h7 => ?_⟩
 refine yg (yyE a8 b8) (by simp) rfl ?_
 simp -dsimp -implicitDefEqProofs
 refine ⟨fun h => by simp_all, fun h8 => ?_⟩
 refine yg (yv6 a9 b9) (by simp) rfl ?_
 simp -dsimp -implicitDefEqProofs
 refine ⟨fun h => by simp_all, fun h9 => ?_⟩
 refine ⟨fun h => by simp_all, fun h10 => ?_⟩
 refine ⟨fun h => by simp_all, fun h11 => ?_⟩
 refine ⟨fun h => by simp_all, fun h12 => ?_⟩
 simp_all
theorem yCI (es : List Boat) (hl : es.length ≤ 1048576) : ycE Tryz.prog yaN [.c (.sl 6 (es.map Boat.enc))] (.c (.ow 6 (es.map Boat.enc))) := by
 refine ybb yc2 (by simp) fun hwf => ?_
 simp -dsimp -implicitDefEqProofs [ybm, yK]
 omega
theorem yy9 (xs : List (List Boat)) (hl : yeI xs) : ycE Tryz.prog ygI [.c (.sl 1 (xs.map yV))] (.c (.ot 1 (xs.map yS))) := by
 refine ybb yrl (by simp) fun hwf => ?_
 simp -dsimp -implicitDefEqProofs [ykR]
 intro hlen
 have hl1 := hl.1
 refine yu0 (k0 := 1) 3 1 (by simp) (by simp) (by decide) ?_
 refine yh (ι := Nat) (fun k => k ≤ xs.length) (fun k => yP [(3, .own 3 1 k), (6, .c (.sl 1 (xs.map yV))), (7, .c (.i xs.length)), (8, .c (.i k))] [(3, .tr 1 0 ((xs.take k).map yS))]) (fun k => xs.length - k) 0 (by simp) (by apply yj <;> simp [AV.yc, AV.yA, Obj.yc, Obj.leO]) ?_
 rintro k hk
 rcases Nat.lt_or_ge k xs.length with hlt | hge
 ·obtain ⟨e, he⟩ : ∃ e, xs[k]? = some e := ⟨_, List.getElem?_eq_getElem hlt⟩
  have hs : xs.take (k + 1) = xs.take k ++ [e] := by rw [List.take_succ, he]; rfl
  simp -dsimp -implicitDefEqProofs [he, yI hlt]
  refine yal (yCI e (hl.2 e (List.mem_of_getElem? he)).1) (by simp ) (by simp [AV.closed, AV.ybW, C.closed]) (by simp [yau]) ?_
  simp -dsimp -implicitDefEqProofs [yK, Nat.min_eq_left hk]
  refine ⟨by omega, yu hlt hlen, k + 1, hlt, by omega, ?_⟩
  have hs2 : (xs.map yS).take (k + 1) = (xs.map yS).take k ++ [[.ow 6 (e.map Boat.enc)]] := by rw [← List.map_take, ← List.map_take, hs, List.map_append]; rfl
  apply yj <;> simp [AV.yc, AV.yA, Obj.yc, Obj.leO, hs2]
 ·have : k = xs.length := by omega
  subst this
  simp -dsimp -implicitDefEqProofs [yK]
  try simp
theorem yxQ (e : Train) (hl : Train.small e) : ycE Tryz.prog yfB [.agg (e.enc.map .c)] (.agg (e.yO.map .c)) := by
 refine ybb yqb (by simp) fun hwf => ?_
 simp -dsimp -implicitDefEqProofs [yjd]
 refine yuZ (yy9 e.Rows hl) (by simp) (by simp [AV.closed, AV.ybW, C.closed, yS]) (by simp [yau]) ?_
 simp -dsimp -implicitDefEqProofs [yK]
theorem yo0 {k : Nat} {xs : List X} {s : St} : wOf (.bsl k xs) s = (xs.map s.ev).flatMap AV.ids := rfl
theorem yve (e : Train) (hl : Train.small e) : yF Tryz.prog yhD [.agg (e.enc.map .c)] (.agg (e.enc.map .c)) := by
 refine yt yrX (by simp) fun hwf => ?_
 simp -dsimp -implicitDefEqProofs [yms]
 have hl1 := hl.1
 refine yh (ι := Nat) (fun k => k ≤ e.Rows.length) (fun k => match k with
  | 0 => yP [(1, .box 1 0), (2, .box 2 0), (3, .box 3 0), (4, .c (.i 0))] [(1, .box [.c (.b e.Up), .c (.sl 1 (e.Rows.map yV))]), (2, .box [.c (.b false), .nil 1]), (3, .box [.c (.b e.Up), .nil 1])]
  | k + 1 => yP [(1, .box 1 0), (2, .box 2 0), (3, .box 3 0), (4, .c (.i (k + 1)))] [(1, .box [.c (.b e.Up), .c (.sl 1 (e.Rows.map yV))]), (2, .box [.c (.b false), .nil 1]), (3, .box [.c (.b e.Up), .own 25 1 (k + 1)]), (25, .tr 1 0 ((e.Rows.map yS).take (k + 1)))]) (fun k => e.Rows.length - k) 0 (by simp) (by apply yj <;> simp [AV.yc, AV.yA, Obj.yc, Obj.leO]) ?_
 rintro k hk
 rcases k with _ | k
 ·rcases Nat.lt_or_ge 0 e.Rows.length with hlt | hge
  ·obtain ⟨r, he⟩ : ∃ r, e.Rows[0]? = some r := ⟨_, List.getElem?_eq_getElem hlt⟩
   have h0 : (0 < e.Rows.length) = True := by simpa using hlt
   have hgr : e.Rows[0] = r := (List.getElem?_eq_some_iff.1 he).2
   have hrl := (hl.2 r (List.mem_of_getElem? he)).1
   simp -dsimp -implicitDefEqProofs [he, h0, hgr, yK, yo0]
   intro hlen
   refine ⟨by omega, by unfold inI; omega, 1, hlt, by omega, ?_⟩
   have hs2 : (e.Rows.map yS).take 1 = [[.ow 6 (r.map Boat.enc)]] := by
    obtain ⟨y, l, hy⟩ : ∃ y l, e.Rows = y :: l := by cases hr : e.Rows with | nil => rw [hr] at hlt; simp at hlt | cons y l => exact ⟨y, l, rfl⟩
    rw [hy] at he ⊢; simp at he; subst he; rfl
   apply yj <;> simp [AV.yc, AV.yA, Obj.yc, Obj.leO, hs2]
  ·have hx : e.Rows = [] := List.length_eq_zero_iff.1 (by omega)
   have h0 : (0 < e.Rows.length) = False := by simp [hx]
   simp -dsimp -implicitDefEqProofs [h0]
   simp [hx]
 ·rcases Nat.lt_or_ge (k + 1) e.Rows.length with hlt | hge
  ·obtain ⟨r, he⟩ : ∃ r, e.Rows[k + 1]? = some r := ⟨_, List.getElem?_eq_getElem hlt⟩
   have h0 : ((k : Int) + 1 < e.Rows.length) = True := by simp; omega
   have h1 : (0 ≤ (k : Int) + 1) = True := by simp; omega
   have h2 : ((k : Int) + 1).toNat = k + 1 := by omega
   have hrl := (hl.2 r (List.mem_of_getElem? he)).1
   simp -dsimp -implicitDefEqProofs [he, h0, h1, h2, yK, yo0]
   intro hlen
   refine ⟨by omega, by omega, by omega, by unfold inI; omega, k + 2, hlt, by omega, ?_⟩
   have hs2 : (e.Rows.map yS).take (k + 2) = (e.Rows.map yS).take (k + 1) ++ [[.ow 6 (r.map Boat.enc)]] := by
    rw [List.take_succ, List.getElem?_map, he]; rfl
   apply yj <;> simp [AV.yc, AV.yA, Obj.yc, Obj.leO, hs2] <;> omega
  ·have h0 : ((k : Int) + 1 < e.Rows.length) = False := by simp; omega
   have hx : e.Rows.length = k + 1 := by omega
   simp -dsimp -implicitDefEqProofs [h0]
   intro _
   have e1 : (e.Rows.map yS).take (k + 1) = e.Rows.map yS := List.take_of_length_le (by simp; omega)
   rw [e1, e1, yak yef]
   simp
theorem yw5 (n : Nat) (k : Int) (h0 : 0 ≤ k) (h1 : k + 6 * n ≤ 8000000000000000000) : yF Tryz.prog ye8 [.c (.sl 6 (marked mkB 6 [] k n)), .c (.i k)] (.c (.i (k + 6 * n))) := by
 refine yt yp7 (by simp) fun hwf => ?_
 simp -dsimp -implicitDefEqProofs [yjH]
 refine yh (ι := Nat) (fun i => i ≤ n) (fun i => yP [(0, .c (.sl 6 (marked mkB 6 [] k n))), (1, .c (.i (k + 6 * i))), (5, .c (.i i))] []) (fun i => n - i) 0 (by simp) (by apply yj <;> simp [AV.yc, AV.yA, Obj.yc]) ?_
 rintro i hi
 rcases Nat.lt_or_ge i n with hlt | hge
 ·have hg := yBb (mk := mkB) (c := 6) (k := k) hlt
  simp only [mkB] at hg
  simp -dsimp -implicitDefEqProofs [yZ, yI hlt, hg]
  intro hlen
  refine ⟨by unfold inI; omega, by unfold inI; omega, by unfold inI; omega, by unfold inI; omega, by unfold inI; omega, by unfold inI; omega, by unfold inI; omega, i + 1, hlt, by omega, ?_⟩
  apply yj <;> simp [AV.yc, AV.yA, Obj.yc] <;> omega
 ·have : i = n := by omega
  subst this
  simp -dsimp -implicitDefEqProofs [yZ]
def fBs (k : Int) (r : List Boat) : List C := [.sl 6 (marked mkB 6 [] k r.length)]
theorem yaZ {α : Type} {f g : Int → α → List C} {n : α → Nat} (h : ∀ k x, ybV (f k x) = some (g k x)) : ∀ (l : List α) (k : Int), yoJ (yaF f n k l) = some (yaF g n k l)
 | [], _ => rfl
 | x :: l, k => by simp [yaF, yoJ, h k x, yaZ h l]
theorem yv1 (k : Int) (r : List Boat) : ybV (fB k r) = some (fBs k r) := rfl
theorem ywM (xs : List (List Boat)) (k : Int) (h0 : 0 ≤ k) (h1 : k + cnt nB xs ≤ 8000000000000000000) : yF Tryz.prog yee [.c (.sl 1 (yaF fBs nB k xs)), .c (.i k)] (.c (.i (k + cnt nB xs))) := by
 refine yt yoN (by simp) fun hwf => ?_
 simp -dsimp -implicitDefEqProofs [yiq]
 refine yh (ι := Nat) (fun i => i ≤ xs.length) (fun i => yP [(0, .c (.sl 1 (yaF fBs nB k xs))), (1, .c (.i (k + yaY nB xs i))), (5, .c (.i i))] []) (fun i => xs.length - i) 0 (by simp) (by apply yj <;> simp [AV.yc, AV.yA, Obj.yc, yb0]) ?_
 rintro i hi
 rcases Nat.lt_or_ge i xs.length with hlt | hge
 ·obtain ⟨e, he⟩ : ∃ e, xs[i]? = some e := ⟨_, List.getElem?_eq_getElem hlt⟩
  have hg := yvW (f := fBs) (n := nB) (k := k) he
  have hc := ybY (n := nB) he
  have hle := ydr (n := nB) (xs := xs) (i := i + 1)
  have hn : nB e = 6 * e.length := rfl
  simp only [fBs] at hg
  simp -dsimp -implicitDefEqProofs [yU, yI hlt, hg]
  intro hlen
  refine yg (yw5 e.length (k + yaY nB xs i) (by omega) (by omega)) (by simp) rfl ?_
  have n1 : (k + (yaY nB xs i : Int) + 6 * (e.length : Int) < 0) = False := by simp; omega
  simp -dsimp -implicitDefEqProofs [n1]
  refine ⟨yu hlt hlen, i + 1, hlt, by omega, ?_⟩
  apply yj <;> simp [AV.yc, AV.yA, Obj.yc] <;> omega
 ·have : i = xs.length := by omega
  subst this
  simp -dsimp -implicitDefEqProofs [yU]
  rw [ycC (Nat.le_refl _)]
  intro _; rfl
theorem yyC (es : List Entry) (hl : es.length ≤ 1048576) : ycE Tryz.prog ydu [.c (.sl 5 (es.map Entry.enc))] (.c (.ow 5 (es.map Entry.enc))) := by
 refine ybb ykT (by simp) fun hwf => ?_
 simp -dsimp -implicitDefEqProofs [ygb]
 intro hlen
 refine ⟨by omega, ?_⟩
 refine yh (ι := Nat) (fun k => k ≤ es.length) (fun k => yP [(0, .c (.sl 5 (es.map Entry.enc))), (3, .own 7 5 es.length), (4, .c (.i k))] [(7, .row 5 (partly Entry.enc [.i 0, .i 0, .i 0, .i 0, .i 0] es k))]) (fun k => es.length - k) 0 (by simp) (by apply yj <;> simp [AV.yc, AV.yA, Obj.yc, yX]) ?_
 rintro k hk
 rcases Nat.lt_or_ge k es.length with hlt | hge
 ·obtain ⟨e, he⟩ : ∃ e, es[k]? = some e := ⟨_, List.getElem?_eq_getElem hlt⟩
  have hs := yae (f := Entry.enc) (z := [.i 0, .i 0, .i 0, .i 0, .i 0]) he
  have hd := yam (f := Entry.enc) (z := [.i 0, .i 0, .i 0, .i 0, .i 0]) (n := 5) rfl hlt
  simp only [Entry.enc] at hs
  simp -dsimp -implicitDefEqProofs [he, yI hlt]
  refine fun _ => yJ (yvc e) (by simp) rfl ?_
  simp -dsimp -implicitDefEqProofs [yI hlt, yaf hk, hd, hs]
  exact ⟨hlt, yu hlt hlen, k + 1, hlt, by omega, by apply yj <;> simp [AV.yc, AV.yA, Obj.yc]⟩
 ·simp -dsimp -implicitDefEqProofs [yah hge]
  intro _
  rw [yad hge, List.take_of_length_le (by simp)]
def ytS (k : Int) : List C := [.i k, .i (k + 1), .i (k + 1 + 1), .i (k + 1 + 1 + 1), .i (k + 1 + 1 + 1 + 1)]
theorem yvF (xs : List Entry) (k : Int) (h0 : 0 ≤ k) (h1 : k + 5 * xs.length ≤ 4611686018427387904) :
 InF Tryz.prog yeQ (.c (cw 5 (xs.map Entry.enc))) (.c (cw 5 (marked ytS 5 [] k xs.length))) [.c (.i k)] (.c (.i (k + 5 * xs.length))) := by
 rcases Nat.eq_zero_or_pos xs.length with hx | hx
 ·have : xs = [] := List.length_eq_zero_iff.1 hx
  subst this
  refine ybq yh9 (by simp) (by simp) rfl fun hwf => ?_
  simp -dsimp -implicitDefEqProofs [yei, marked]
  refine yh (ι := Unit) (fun _ => True) (fun _ => yP [(0, .c (.sl 5 [])), (1, .c (.i k)), (5, .c (.i 0)), (1000000, .c (.sl 5 []))] []) (fun _ => 0) () trivial (by apply yj <;> simp [AV.yc, AV.yA, Obj.yc]) ?_
  rintro _ _
  simp -dsimp -implicitDefEqProofs
 ·rw [ybx (by simpa using hx), ybx (by rw [yZ]; exact hx)]
  refine ybq yh9 (by simp) (by simp) rfl fun hwf => ?_
  simp -dsimp -implicitDefEqProofs [yei]
  refine yh (ι := Nat) (fun i => i ≤ xs.length) (fun i => yP [(0, .own 0 5 xs.length), (1, .c (.i (k + 5 * i))), (5, .c (.i i)), (1000000, .own 0 5 xs.length)] [(0, .row 5 (marked ytS 5 (xs.map Entry.enc) k i))]) (fun i => xs.length - i) 0 (by simp) (by apply yj <;> simp [AV.yc, AV.yA, Obj.yc, yd8]) ?_
  rintro i hi
  rcases Nat.lt_or_ge i xs.length with hlt | hge
  ·obtain ⟨e, he⟩ : ∃ e, xs[i]? = some e := ⟨_, List.getElem?_eq_getElem hlt⟩
   have hg := yfn (mk := ytS) (c := 5) (k := k) (rows := xs.map Entry.enc) (i := i) (r := e.enc) (by simp [he])
   have hl := yfo (mk := ytS) (c := 5) (k := k) (rows := xs.map Entry.enc) (i := i) (by simpa using hi)
   have hs := yfD (mk := ytS) (c := 5) (k := k) (rows := xs.map Entry.enc) (i := i) (by simpa using hlt)
   rw [List.length_map] at hl
   generalize marked ytS 5 (xs.map Entry.enc) k i = M at *
   have hlt2 : i < M.length := by omega
   have hself : ∀ a, (M.set i a)[i]? = some a := fun a => List.getElem?_set_self hlt2
   simp only [ytS] at hs
   simp only [Entry.enc] at hg
   simp -dsimp -implicitDefEqProofs [yI hlt, hg, hl, hlt2, hself]
   intro hlen
   refine ⟨hlt, by unfold inI; omega, hlt, by unfold inI; omega, hlt, by unfold inI; omega, hlt, by unfold inI; omega, hlt, by unfold inI; omega, by unfold inI; omega, i + 1, hlt, by omega, ?_⟩
   apply yj <;> simp [AV.yc, AV.yA, Obj.yc, hs, hself] <;> omega
  ·have : i = xs.length := by omega
   subst this
   simp -dsimp -implicitDefEqProofs
   intro _
   have e := yfC (mk := ytS) (c := 5) (rows := xs.map Entry.enc) (k := k) (i := xs.length) (by simp)
   rw [e, List.length_map, List.take_of_length_le (by rw [yZ]; exact Nat.le_refl _)]
@[simp] def Tariff.yO (e : Tariff) : List C := [.i e.Base, .i e.PerArea, .ow 1 (e.PerClass.map yac), .ow 1 (e.Weights.map yac)]
theorem yzy (e : Tariff) (hl : e.small) : ycE Tryz.prog ydG [.agg (e.enc.map .c)] (.agg (e.yO.map .c)) := by
 refine ybb yk9 (by simp) fun hwf => ?_
 simp -dsimp -implicitDefEqProofs [ygF]
 refine yal (ypt e.PerClass hl.1) (by simp ) (by simp [AV.closed, AV.ybW, C.closed]) (by simp [yau]) ?_
 simp -dsimp -implicitDefEqProofs [yK]
 refine yal (ypt e.Weights hl.2) (by simp ) (by simp [AV.closed, AV.ybW, C.closed]) (by simp [yau]) ?_
 simp -dsimp -implicitDefEqProofs [yK]
def nT (e : Tariff) : Int := e.PerClass.length + e.Weights.length
def yeJ (e : Tariff) (k : Int) : List C := [.i e.Base, .i e.PerArea, cw 1 (marked yac 1 [] k e.PerClass.length), cw 1 (marked yac 1 [] (k + e.PerClass.length) e.Weights.length)]
def Tariff.yt8 (e : Tariff) : List C := [.i e.Base, .i e.PerArea, cw 1 (e.PerClass.map yac), cw 1 (e.Weights.map yac)]
theorem ywx (e : Tariff) (k : Int) (h0 : 0 ≤ k) (h1 : k + nT e ≤ 8000000000000000000) :
 InF Tryz.prog yeM (.agg (e.yt8.map .c)) (.agg ((yeJ e k).map .c)) [.c (.i k)] (.c (.i (k + nT e))) := by
 obtain ⟨ba, pa, p, q⟩ := e
 simp only [nT] at h1
 have hp : p.length = 0 ∨ 0 < p.length := by omega
 have hq : q.length = 0 ∨ 0 < q.length := by omega
 rcases hp with hp | hp <;> rcases hq with hq | hq
 ·skip
  have : p = [] := List.length_eq_zero_iff.1 hp
  subst this
  have : q = [] := List.length_eq_zero_iff.1 hq
  subst this
  have m1 := yb1 [] k h0 (by first | omega | (simp at h1; omega) | (simp at h1 ⊢; omega))
  have m2 := yb1 [] k (by omega) (by first | omega | (simp at h1; omega) | (simp at h1 ⊢; omega))
  refine ybq ycJ (by simp) (by simp [Tariff.yt8, marked]) rfl fun hwf => ?_
  simp -dsimp -implicitDefEqProofs [ybS, Tariff.yt8]
  refine ycd (up := none) m1 (by simp) rfl rfl (ycI rfl) ?_
  simp -dsimp -implicitDefEqProofs
  refine ycd (up := none) m2 (by simp) rfl rfl (ycI rfl) ?_
  simp -dsimp -implicitDefEqProofs [yeJ, nT, yZ, yd3]
  first | rfl | omega
 ·skip
  have : p = [] := List.length_eq_zero_iff.1 hp
  subst this
  have m1 := yb1 [] k h0 (by first | omega | (simp at h1; omega) | (simp at h1 ⊢; omega))
  have m2 := yb1 q k (by omega) (by first | omega | (simp at h1; omega) | (simp at h1 ⊢; omega))
  have d0 := ybx (k := 1) (rows := q.map yac) (by simpa using hq)
  have d1 := ybx (k := 1) (rows := marked yac 1 [] k q.length) (by rw [yZ]; exact hq)
  refine ybq ycJ (by simp) (by simp [Tariff.yt8, marked, d0, d1]) rfl fun hwf => ?_
  simp -dsimp -implicitDefEqProofs [ybS, Tariff.yt8, d0, d1]
  refine ycd (up := none) m1 (by simp) rfl rfl (ycI rfl) ?_
  simp -dsimp -implicitDefEqProofs
  refine ycd (up := some (40000, .row 1 (marked yac 1 [] k q.length))) m2 (by simp) rfl rfl (ycK (rows := q.map yac) (by simp) rfl rfl (by simp) (by simp [yZ]) rfl rfl) ?_
  simp -dsimp -implicitDefEqProofs [yeJ, nT, yZ, yd3, d0, d1]
  first | rfl | omega
 ·skip
  have : q = [] := List.length_eq_zero_iff.1 hq
  subst this
  have m1 := yb1 p k h0 (by first | omega | (simp at h1; omega) | (simp at h1 ⊢; omega))
  have m2 := yb1 [] (k + p.length) (by omega) (by first | omega | (simp at h1; omega) | (simp at h1 ⊢; omega))
  have c0 := ybx (k := 1) (rows := p.map yac) (by simpa using hp)
  have c1 := ybx (k := 1) (rows := marked yac 1 [] k p.length) (by rw [yZ]; exact hp)
  refine ybq ycJ (by simp) (by simp [Tariff.yt8, marked, c0, c1]) rfl fun hwf => ?_
  simp -dsimp -implicitDefEqProofs [ybS, Tariff.yt8, c0, c1]
  refine ycd (up := some (30000, .row 1 (marked yac 1 [] k p.length))) m1 (by simp) rfl rfl (ycK (rows := p.map yac) (by simp) rfl rfl (by simp) (by simp [yZ]) rfl rfl) ?_
  simp -dsimp -implicitDefEqProofs
  refine ycd (up := none) m2 (by simp) rfl rfl (ycI rfl) ?_
  simp -dsimp -implicitDefEqProofs [yeJ, nT, yZ, yd3, c0, c1]
  first | rfl | omega
 ·skip
  have m1 := yb1 p k h0 (by first | omega | (simp at h1; omega) | (simp at h1 ⊢; omega))
  have m2 := yb1 q (k + p.length) (by omega) (by first | omega | (simp at h1; omega) | (simp at h1 ⊢; omega))
  have c0 := ybx (k := 1) (rows := p.map yac) (by simpa using hp)
  have c1 := ybx (k := 1) (rows := marked yac 1 [] k p.length) (by rw [yZ]; exact hp)
  have d0 := ybx (k := 1) (rows := q.map yac) (by simpa using hq)
  have d1 := ybx (k := 1) (rows := marked yac 1 [] (k + p.length) q.length) (by rw [yZ]; exact hq)
  refine ybq ycJ (by simp) (by simp [Tariff.yt8, marked, c0, c1, d0, d1]) rfl fun hwf => ?_
  simp -dsimp -implicitDefEqProofs [ybS, Tariff.yt8, c0, c1, d0, d1]
  refine ycd (up := some (30000, .row 1 (marked yac 1 [] k p.length))) m1 (by simp) rfl rfl (ycK (rows := p.map yac) (by simp) rfl rfl (by simp) (by simp [yZ]) rfl rfl) ?_
  simp -dsimp -implicitDefEqProofs
  refine ycd (up := some (40000, .row 1 (marked yac 1 [] (k + p.length) q.length))) m2 (by simp) rfl rfl (ycK (rows := q.map yac) (by simp) rfl rfl (by simp) (by simp [yZ]) rfl rfl) ?_
  simp -dsimp -implicitDefEqProofs [yeJ, nT, yZ, yd3, c0, c1, d0, d1]
  first | rfl | omega
def ynf (r : Reach) : Int := if yap r then ydN r else 0
def yuX (l : List Reach) : Int := (l.map ydN).sum
def ydw (l : List Reach) : Bool := decide (1 ≤ l.length) && decide (l.length ≤ 6) && l.all yap && decide (yuX l ≤ 1000000000)
def ydF (l : List Reach) (k : Nat) : Int := yuX (l.take k)
theorem yjU {l : List Reach} : ydF l 0 = 0 := rfl
theorem ykq {l : List Reach} {k : Nat} {r : Reach} (h : l[k]? = some r) : ydF l (k + 1) = ydF l k + ydN r := by
 unfold ydF yuX
 rw [List.take_succ, h]; simp
theorem yii {l : List Reach} {k : Nat} (h : l.length ≤ k) : ydF l k = yuX l := by unfold ydF; rw [List.take_of_length_le h]
structure SumFacts (r : Reach) : Prop where
 vol : amount r.Volume = true
 len : r.Pipe.length ≤ 12
 amt : ∀ n ∈ r.Pipe, amount n = true
 rng : 0 ≤ ydN r ∧ ydN r ≤ 1000000000
theorem ys7 {r : Reach} (h : yap r = true) : SumFacts r := by
 simp only [yap, Bool.and_eq_true, decide_eq_true_eq, List.all_eq_true] at h
 obtain ⟨⟨⟨⟨h1, h2⟩, h3⟩, h4⟩, h5⟩ := h
 refine ⟨h2, h3, h4, ?_, h5⟩
 have a1 := yR.1 (show inRange r.Volume 0 1000000000 = true from h2)
 have a2 := yol (l := r.Pipe) h4
 unfold ydN; omega
theorem ym0 {l : List Reach} : ∀ {k : Nat}, (∀ r ∈ l.take k, yap r = true) → 0 ≤ ydF l k ∧ ydF l k ≤ 1000000000 * k
 | 0, _ => by rw [yjU]; omega
 | k + 1, h => by
  have ih := ym0 (k := k) fun r hr => h r (by rw [List.take_succ]; exact List.mem_append_left _ hr)
  have e2 : ((k + 1 : Nat) : Int) = k + 1 := by simp
  cases hk : l[k]? with
  | none =>
   have hl : l.length ≤ k := by simpa using hk
   rw [yii (by omega), ← yii hl]; omega
  | some r =>
   have := (ys7 (h r (by rw [List.take_succ, hk]; exact List.mem_append_right _ (by simp)))).rng
   rw [ykq hk]; omega
theorem ytO {l : List Reach} {k : Nat} {r : Reach} (h : l[k]? = some r) (hr : yap r = false) : ydw l = false := by
 have := all_false (p := yap) h hr
 simp [ydw, this]
theorem ywL (r : Reach) : yF Tryz.prog yhx [.agg (r.enc.map .c)] (.c (.i (ynf r))) := by
 refine yt ytN (by simp) fun hwf => ?_
 simp -dsimp -implicitDefEqProofs [yl1]
 refine yg (ykz r) (by simp) rfl ?_
 cases h : yap r with
 | false => simp -dsimp -implicitDefEqProofs; simp [ynf, h]
 | true =>
 have f := ys7 h
 have hl := f.len
 have hv := yR.1 (show inRange r.Volume 0 1000000000 = true from f.vol)
 have ht : ynf r = ydN r := by simp [ynf, h]
 simp -dsimp -implicitDefEqProofs [ht]
 intro hlen
 refine yh (ι := Nat) (fun k => k ≤ r.Pipe.length) (fun k => yP [(3, .c (.i (r.Volume + sumTo r.Pipe k))), (12, .c (.sl 1 (r.Pipe.map yac))), (13, .c (.i r.Pipe.length)), (14, .c (.i k))] []) (fun k => r.Pipe.length - k) 0 (by simp) (by apply yj <;> simp [AV.yc, AV.yA, Obj.yc, yhN]) ?_
 rintro k hk
 rcases Nat.lt_or_ge k r.Pipe.length with hlt | hge
 ·obtain ⟨x, hx⟩ : ∃ x, r.Pipe[k]? = some x := ⟨_, List.getElem?_eq_getElem hlt⟩
  have e1 := yku hx
  have b1 := yqt f.amt hl (k + 1)
  rw [e1] at b1
  simp -dsimp -implicitDefEqProofs [hx, yI hlt]
  refine ⟨by unfold inI; omega, yu hlt hlen, k + 1, hlt, by omega, ?_⟩
  apply yj <;> simp [AV.yc, AV.yA, Obj.yc, e1]; omega
 ·simp -dsimp -implicitDefEqProofs [yah hge]
  rw [yp1 hge, ht]; rfl
theorem ywC (l : List Reach) : yF Tryz.prog yhy [.c (.sl 3 (l.map Reach.enc))] (.c (.b (ydw l))) := by
 refine yt ysQ (by simp) fun hwf => ?_
 simp -dsimp -implicitDefEqProofs [ymT]
 refine fun hlen => ⟨fun h1 => ?_, fun h1 => ?_⟩
 rotate_left
 ·simp [ydw]; omega
 refine fun _ => ⟨fun h6 => by simp [ydw]; omega, fun h6 => ?_⟩
 refine fun _ => yh (ι := Nat) (fun k => k ≤ l.length ∧ ∀ r ∈ l.take k, yap r = true) (fun k => yP [(3, .c (.i (ydF l k))), (14, .c (.sl 3 (l.map Reach.enc))), (15, .c (.i l.length)), (16, .c (.i k))] []) (fun k => l.length - k) 0 (by simp) (by apply yj <;> simp [AV.yc, AV.yA, Obj.yc, yjU]) ?_
 rintro k ⟨hk, hall⟩
 rcases Nat.lt_or_ge k l.length with hlt | hge
 ·obtain ⟨r, hr⟩ : ∃ r, l[k]? = some r := ⟨_, List.getElem?_eq_getElem hlt⟩
  simp -dsimp -implicitDefEqProofs [hr, yI hlt]
  refine yg (ykz r) (by simp) rfl ?_
  cases h : yap r with
  | false => simp -dsimp -implicitDefEqProofs; exact ytO hr h
  | true =>
   have ht : ynf r = ydN r := by simp [ynf, h]
   have hall' := yL (p := yap) hr hall h
   have hb := ym0 hall'
   have e1 := ykq hr
   simp -dsimp -implicitDefEqProofs
   refine yg (ywL r) (by simp) rfl ?_
   simp -dsimp -implicitDefEqProofs [ht]
   refine ⟨by rw [e1] at hb; unfold inI; omega, yu hlt hlen, k + 1, ⟨hlt, hall'⟩, by omega, ?_⟩
   apply yj <;> simp [AV.yc, AV.yA, Obj.yc, e1]
 ·have hall2 := yQ (p := yap) hge hall
  simp -dsimp -implicitDefEqProofs [yah hge]
  rw [yii hge]
  have a1 : 1 ≤ l.length := by omega
  have a2 : l.length ≤ 6 := by omega
  simp [ydw, a1, a2, hall2]
def ykV (l : List Reach) (k : Nat) : Int := if 1000000001 < ydF l k then 1000000001 else ydF l k
theorem yy5 {l : List Reach} : ykV l 0 = 0 := by simp [ykV, yjU]
theorem yzn {l : List Reach} {k : Nat} {r : Reach} (h : l[k]? = some r) (hr : 0 ≤ ydN r) : (if 1000000001 < ykV l k + ydN r then 1000000001 else ykV l k + ydN r) = ykV l (k + 1) := by
 unfold ykV
 rw [ykq h]
 (repeat' split) <;> omega
theorem yAw {l : List Reach} {k : Nat} (h : ∀ r ∈ l.take k, yap r = true) : 0 ≤ ykV l k ∧ ykV l k ≤ 1000000001 := by
 have := ym0 h
 unfold ykV
 split <;> omega
theorem ywy (l : List Reach) : yF Tryz.prog yht [.c (.sl 3 (l.map Reach.enc))] (.c (.b (ydw l))) := by
 refine yt yrT (by simp) fun hwf => ?_
 simp -dsimp -implicitDefEqProofs [ymP]
 refine yh (ι := Nat) (fun k => k ≤ l.length ∧ ∀ r ∈ l.take k, yap r = true) (fun k => yP [(0, .c (.sl 3 (l.map Reach.enc))), (3, .c (.i (ykV l k))), (4, .c (.i k))] []) (fun k => l.length - k) 0 (by simp) (by apply yj <;> simp [AV.yc, AV.yA, Obj.yc, yy5]) ?_
 rintro k ⟨hk, hall⟩
 rcases Nat.lt_or_ge k l.length with hlt | hge
 ·obtain ⟨r, hr⟩ : ∃ r, l[k]? = some r := ⟨_, List.getElem?_eq_getElem hlt⟩
  simp -dsimp -implicitDefEqProofs [hr, yI hlt]
  intro hlen
  refine yg (yo1 r) (by simp) rfl ?_
  cases h : yap r with
  | false => simp -dsimp -implicitDefEqProofs; exact ytO hr h
  | true =>
   have f := ys7 h
   have hall' := yL (p := yap) hr hall h
   have hb := yAw hall
   have hs := f.rng
   have e1 := yzn hr hs.1
   simp -dsimp -implicitDefEqProofs [hr, yI hlt]
   refine yg (yxZ r f.vol f.len f.amt) (by simp) rfl ?_
   simp -dsimp -implicitDefEqProofs [e1]
   refine ⟨by unfold inI; omega, yu hlt hlen, k + 1, ⟨hlt, hall'⟩, by omega, ?_⟩
   apply yj <;> simp [AV.yc, AV.yA, Obj.yc, e1]
 ·have hall2 := yQ (p := yap) hge hall
  simp -dsimp -implicitDefEqProofs [yah hge]
  intro hlen
  refine yg (yC l.length 1 6) (by simp) rfl ?_
  have hr : ydF l k = yuX l := yii hge
  have hc : (ykV l k ≤ 1000000000) = (yuX l ≤ 1000000000) := by
   unfold ykV; rw [hr]; apply propext; split <;> omega
  have hrng : inRange (l.length : Int) 1 6 = (decide (1 ≤ l.length) && decide (l.length ≤ 6)) := by
   rw [Bool.eq_iff_iff, yR]; simp only [Bool.and_eq_true, decide_eq_true_eq]; omega
  cases h1 : inRange (l.length : Int) 1 6 with
  | false => simp -dsimp -implicitDefEqProofs; rw [ydw, ← hrng, h1]; simp
  | true =>
   simp -dsimp -implicitDefEqProofs
   rw [ydw, ← hrng, h1]
   simp [hall2, hc]
def ybK (p : Way × List Mover) : Bool := ymn p.1 && decide (p.2.length ≤ 24) && p.2.all fun m => ya8 m p.1
def ybc (x : Waterway) : Bool := ydw x.Reaches && decide (2 ≤ x.Reaches.length) && decide (x.Ways.length = x.Reaches.length) && decide (x.Movers.length = x.Reaches.length) && decide (x.Works.length + 1 = x.Reaches.length) &&
 (x.Ways.zip x.Movers).all ybK && x.Works.all yaS
theorem yE3 {w : Way} {ms : List Mover} (h : ymn w = false) : ybK (w, ms) = false := by simp [ybK, h]
theorem yFg {w : Way} {ms : List Mover} (h : 24 < ms.length) : ybK (w, ms) = false := by simp [ybK]; omega
theorem yBK {w : Way} {ms : List Mover} {k : Nat} {m : Mover} (h : ms[k]? = some m) (hm : ya8 m w = false) : ybK (w, ms) = false := by
 have := all_false (p := fun m => ya8 m w) h hm
 simp [ybK, this]
theorem ydU {x : Waterway} {k : Nat} {w : Way} {ms : List Mover} (h1 : x.Ways[k]? = some w) (h2 : x.Movers[k]? = some ms) (h : ybK (w, ms) = false) : ybc x = false := by
 have := all_false (p := ybK) (l := x.Ways.zip x.Movers) (k := k) (List.getElem?_zip_eq_some.2 ⟨h1, h2⟩) h
 simp [ybc, this]
theorem ysN {x : Waterway} {k : Nat} {w : Work} (h1 : x.Works[k]? = some w) (h : yaS w = false) : ybc x = false := by
 have := all_false (p := yaS) h1 h
 simp [ybc, this]
theorem pno2 {x : Waterway} (h : ¬ 2 ≤ x.Reaches.length) : ybc x = false := by simp [ybc, h]
theorem pno3 {x : Waterway} (h : ¬ x.Ways.length = x.Reaches.length) : ybc x = false := by simp [ybc, h]
theorem pno4 {x : Waterway} (h : ¬ x.Movers.length = x.Reaches.length) : ybc x = false := by simp [ybc, h]
theorem pno5 {x : Waterway} (h : ¬ x.Works.length + 1 = x.Reaches.length) : ybc x = false := by simp [ybc, h]
theorem yvH (x : Waterway) (hs : x.small) : yF Tryz.prog yhJ [.agg (x.enc.map .c)] (.c (.b (ybc x))) := by
 have hsM := hs.2.2.2.1
 have hsW := hs.2.2.1
 refine yt yti (by simp) fun hwf => ?_
 simp -dsimp -implicitDefEqProofs [ymJ]
 intro hlen
 refine yg (ywC x.Reaches) (by simp) rfl ?_
 cases h1 : ydw x.Reaches with
 | false => simp -dsimp -implicitDefEqProofs; simp [ybc, h1]
 | true =>
 simp -dsimp -implicitDefEqProofs
 refine ⟨fun h2 => ?_, fun h2 => (pno2 (by omega))⟩
 intro _
 refine ⟨fun h3 => ?_, fun h3 => (pno3 (by omega))⟩
 intro _
 refine ⟨fun h4 => ?_, fun h4 => (pno4 (by omega))⟩
 refine fun _ => ⟨by unfold maxLen at hlen; unfold inI; omega, ?_⟩
 refine ⟨fun h5 => (pno5 (by omega)), fun h5 => ?_⟩
 have h3' : x.Ways.length = x.Reaches.length := by omega
 have h4' : x.Movers.length = x.Reaches.length := by omega
 have hz : (x.Ways.zip x.Movers).length = x.Ways.length := by rw [List.length_zip]; omega
 refine fun hlw => yh (ι := Nat) (fun k => k ≤ x.Ways.length ∧ ∀ p ∈ (x.Ways.zip x.Movers).take k, ybK p = true) (fun k => yP [(1, .box 1 0), (44, .c (.sl 2 (x.Ways.map Way.enc))), (45, .c (.i x.Ways.length)), (46, .c (.i k))] [(1, .box (x.enc.map .c))]) (fun k => x.Ways.length - k) 0 (by simp) (by apply yj <;> simp [AV.yc, AV.yA, Obj.yc]) ?_
 rintro k ⟨hk, hall⟩
 rcases Nat.lt_or_ge k x.Ways.length with hlt | hge
 ·obtain ⟨w, hw⟩ : ∃ w, x.Ways[k]? = some w := ⟨_, List.getElem?_eq_getElem hlt⟩
  obtain ⟨ms, hm⟩ : ∃ w, x.Movers[k]? = some w := ⟨_, List.getElem?_eq_getElem (by omega)⟩
  have hkm : k < x.Movers.length := by omega
  have gm := (List.getElem?_eq_some_iff.1 hm).2
  have gw := (List.getElem?_eq_some_iff.1 hw).2
  have hp : (x.Ways.zip x.Movers)[k]? = some (w, ms) := List.getElem?_zip_eq_some.2 ⟨hw, hm⟩
  have hsm := hsM.2 ms (List.mem_of_getElem? hm)
  simp -dsimp -implicitDefEqProofs [hw, gw, yI hlt, hlt]
  refine yg (ysB w) (by simp) rfl ?_
  cases h6 : ymn w with
  | false => simp -dsimp -implicitDefEqProofs; exact ydU hw hm (yE3 h6)
  | true =>
  simp -dsimp -implicitDefEqProofs [hm, gm, hkm, yI hkm]
  intro hlm
  refine ⟨fun h7 => (ydU hw hm (yFg (by omega))), fun h7 => ?_⟩
  refine fun _ => yh (ι := Nat) (fun i => i ≤ ms.length ∧ ∀ m ∈ ms.take i, ya8 m w = true) (fun i => yP [(1, .box 1 0), (5, .box 5 0), (44, .c (.sl 2 (x.Ways.map Way.enc))), (45, .c (.i x.Ways.length)), (46, .c (.i k)), (67, .c (.sl 3 (ms.map Mover.enc))), (68, .c (.i ms.length)), (69, .c (.i i))] [(1, .box (x.enc.map .c)), (5, .box (w.enc.map .c))]) (fun i => ms.length - i) 0 (by simp) (by apply yj <;> simp [AV.yc, AV.yA, Obj.yc]) ?_
  rintro i ⟨hi, hall2⟩
  rcases Nat.lt_or_ge i ms.length with hlt2 | hge2
  ·obtain ⟨m, hmm⟩ : ∃ w, ms[i]? = some w := ⟨_, List.getElem?_eq_getElem hlt2⟩
   have g2 := (List.getElem?_eq_some_iff.1 hmm).2
   simp -dsimp -implicitDefEqProofs [hmm, g2, yI hlt2, hlt2]
   refine yg (yvP m w (hsm.2 m (List.mem_of_getElem? hmm))) (by simp) rfl ?_
   cases h8 : ya8 m w with
   | false => simp -dsimp -implicitDefEqProofs; exact ydU hw hm (yBK hmm h8)
   | true =>
    simp -dsimp -implicitDefEqProofs
    refine ⟨yu hlt2 hlm, i + 1, ⟨hlt2, yL (p := fun m => ya8 m w) hmm hall2 h8⟩, by omega, ?_⟩
    apply yj <;> simp [AV.yc, AV.yA, Obj.yc]
  ·have h9 := yQ (p := fun m => ya8 m w) hge2 hall2
   have hlane : ybK (w, ms) = true := by
    have : ms.length ≤ 24 := by omega
    simp [ybK, h6, this, h9]
   simp -dsimp -implicitDefEqProofs [yah hge2]
   refine ⟨yu hlt hlw, k + 1, ⟨hlt, fun a b hab => yL (p := ybK) hp hall hlane (a, b) hab⟩, by omega, ?_⟩
   apply yj <;> simp [AV.yc, AV.yA, Obj.yc]
 ·have hl := yQ (p := ybK) (by rw [hz]; exact hge) hall
  simp -dsimp -implicitDefEqProofs [yah hge]
  refine fun hlk => yh (ι := Nat) (fun i => i ≤ x.Works.length ∧ ∀ w ∈ x.Works.take i, yaS w = true) (fun i => yP [(1, .box 1 0), (80, .c (.sl 22 (x.Works.map Work.enc))), (81, .c (.i x.Works.length)), (82, .c (.i i))] [(1, .box (x.enc.map .c))]) (fun i => x.Works.length - i) 0 (by simp) (by apply yj <;> simp [AV.yc, AV.yA, Obj.yc]) ?_
  rintro i ⟨hi, hall2⟩
  rcases Nat.lt_or_ge i x.Works.length with hlt2 | hge2
  ·obtain ⟨w, hw⟩ : ∃ w, x.Works[i]? = some w := ⟨_, List.getElem?_eq_getElem hlt2⟩
   have g2 := (List.getElem?_eq_some_iff.1 hw).2
   simp -dsimp -implicitDefEqProofs [hw, g2, yI hlt2, hlt2]
   refine yg (yyn w (hsW.2 w (List.mem_of_getElem? hw))) (by simp) rfl ?_
   cases h8 : yaS w with
   | false => simp -dsimp -implicitDefEqProofs; exact ysN hw h8
   | true =>
    simp -dsimp -implicitDefEqProofs
    refine ⟨yu hlt2 hlk, i + 1, ⟨hlt2, yL (p := yaS) hw hall2 h8⟩, by omega, ?_⟩
    apply yj <;> simp [AV.yc, AV.yA, Obj.yc]
  ·have h9 := yQ (p := yaS) hge2 hall2
   simp -dsimp -implicitDefEqProofs [yah hge2]
   have h2' : 2 ≤ x.Reaches.length := by omega
   have h5' : x.Works.length + 1 = x.Reaches.length := by omega
   simp [ybc, h1, h2', h3', h4', h5', hl, h9]
def ycQ (n : Nat) (p : Passing) : Bool := inRange p.Time 0 1000000 && inRange p.Work 0 (n - 1) && yH p.Train
def ybt (x : Waterway) : Bool := decide (x.Arrived.length ≤ 500) && decide (x.Entered.length ≤ 2000) && decide (x.Passings.length ≤ 500) && x.Arrived.all yH && x.Entered.all (fun n => inRange n 1 9999) && x.Passings.all (ycQ x.Works.length)
def yai (x : Waterway) : Bool := inRange x.Time 0 1000000 && ybc x && ybt x && ya1 x.Tariff && yks x.Book && inRange x.Start 0 1000000000 && inRange x.In 0 1000000000 && inRange x.Out 0 1000000000
theorem lno1 {x : Waterway} (h : ¬ x.Arrived.length ≤ 500) : ybt x = false := by simp [ybt, h]
theorem lno2 {x : Waterway} (h : ¬ x.Entered.length ≤ 2000) : ybt x = false := by simp [ybt, h]
theorem lno3 {x : Waterway} (h : ¬ x.Passings.length ≤ 500) : ybt x = false := by simp [ybt, h]
theorem lno4 {x : Waterway} {k : Nat} {t : Train} (h1 : x.Arrived[k]? = some t) (h : yH t = false) : ybt x = false := by
 have := all_false (p := yH) h1 h
 simp [ybt, this]
theorem lno5 {x : Waterway} {k : Nat} {t : Int} (h1 : x.Entered[k]? = some t) (h : inRange t 1 9999 = false) : ybt x = false := by
 have := all_false (p := fun n => inRange n 1 9999) h1 h
 simp [ybt, this]
theorem yA6 {x : Waterway} {k : Nat} {t : Passing} (h1 : x.Passings[k]? = some t) (h : ycQ x.Works.length t = false) : ybt x = false := by
 have := all_false (p := ycQ x.Works.length) h1 h
 simp [ybt, this]
theorem wno {x : Waterway} (h : ybt x = false) : yai x = false := by simp [yai, h]
theorem yqX (x : Waterway) (hs : x.small) : yF Tryz.prog yeO [.agg (x.enc.map .c)] (.c (.b (yai x))) := by
 have hsA := hs.2.2.2.2.1
 have hsP := hs.2.2.2.2.2.2.2.2
 refine yt ypH (by simp) fun hwf => ?_
 simp -dsimp -implicitDefEqProofs [yip]
 refine yg (yE x.Time 0 1000000) (by simp) rfl ?_
 cases h1 : inRange x.Time 0 1000000 with
 | false => simp -dsimp -implicitDefEqProofs; simp [yai, h1]
 | true =>
 simp -dsimp -implicitDefEqProofs
 refine yg (yvH x hs) (by simp) rfl ?_
 cases h2 : ybc x with
 | false => simp -dsimp -implicitDefEqProofs; simp [yai, h2]
 | true =>
 simp -dsimp -implicitDefEqProofs
 intro hlA
 refine ⟨fun h3 => ?_, fun h3 => (wno (lno1 (by omega)))⟩
 intro hlE
 refine ⟨fun h4 => ?_, fun h4 => (wno (lno2 (by omega)))⟩
 intro hlP
 refine ⟨fun h5 => (wno (lno3 (by omega))), fun h5 => ?_⟩
 refine fun _ => yh (ι := Nat) (fun k => k ≤ x.Arrived.length ∧ ∀ t ∈ x.Arrived.take k, yH t = true) (fun k => yP [(1, .box 1 0), (37, .c (.sl 2 (x.Arrived.map Train.enc))), (38, .c (.i x.Arrived.length)), (39, .c (.i k))] [(1, .box (x.enc.map .c))]) (fun k => x.Arrived.length - k) 0 (by simp) (by apply yj <;> simp [AV.yc, AV.yA, Obj.yc]) ?_
 rintro k ⟨hk, hall⟩
 rcases Nat.lt_or_ge k x.Arrived.length with hlt | hge
 ·obtain ⟨t, ht⟩ : ∃ w, x.Arrived[k]? = some w := ⟨_, List.getElem?_eq_getElem hlt⟩
  simp -dsimp -implicitDefEqProofs [ht, yI hlt]
  refine yg (ybu t (hsA.2 t (List.mem_of_getElem? ht))) (by simp) rfl ?_
  cases h6 : yH t with
  | false => simp -dsimp -implicitDefEqProofs; exact wno (lno4 ht h6)
  | true =>
   simp -dsimp -implicitDefEqProofs
   refine ⟨yu hlt hlA, k + 1, ⟨hlt, yL (p := yH) ht hall h6⟩, by omega, ?_⟩
   apply yj <;> simp [AV.yc, AV.yA, Obj.yc]
 have hA := yQ (p := yH) hge hall
 simp -dsimp -implicitDefEqProofs [yah hge]
 refine fun _ => yh (ι := Nat) (fun k => k ≤ x.Entered.length ∧ ∀ t ∈ x.Entered.take k, inRange t 1 9999 = true) (fun k => yP [(1, .box 1 0), (48, .c (.sl 1 (x.Entered.map yac))), (49, .c (.i x.Entered.length)), (50, .c (.i k))] [(1, .box (x.enc.map .c))]) (fun k => x.Entered.length - k) 0 (by simp) (by apply yj <;> simp [AV.yc, AV.yA, Obj.yc]) ?_
 clear hall hk hge k
 rintro k ⟨hk, hall⟩
 rcases Nat.lt_or_ge k x.Entered.length with hlt | hge
 ·obtain ⟨t, ht⟩ : ∃ w, x.Entered[k]? = some w := ⟨_, List.getElem?_eq_getElem hlt⟩
  simp -dsimp -implicitDefEqProofs [ht, yI hlt]
  refine yg (yE t 1 9999) (by simp) rfl ?_
  cases h6 : inRange t 1 9999 with
  | false => simp -dsimp -implicitDefEqProofs; exact wno (lno5 ht h6)
  | true =>
   simp -dsimp -implicitDefEqProofs
   refine ⟨yu hlt hlE, k + 1, ⟨hlt, yL (p := fun n => inRange n 1 9999) ht hall h6⟩, by omega, ?_⟩
   apply yj <;> simp [AV.yc, AV.yA, Obj.yc]
 have hE := yQ (p := fun n => inRange n 1 9999) hge hall
 simp -dsimp -implicitDefEqProofs [yah hge]
 refine fun _ => yh (ι := Nat) (fun k => k ≤ x.Passings.length ∧ ∀ t ∈ x.Passings.take k, ycQ x.Works.length t = true) (fun k => yP [(1, .box 1 0), (59, .c (.sl 4 (x.Passings.map Passing.enc))), (60, .c (.i x.Passings.length)), (61, .c (.i k))] [(1, .box (x.enc.map .c))]) (fun k => x.Passings.length - k) 0 (by simp) (by apply yj <;> simp [AV.yc, AV.yA, Obj.yc]) ?_
 clear hall hk hge k
 rintro k ⟨hk, hall⟩
 rcases Nat.lt_or_ge k x.Passings.length with hlt | hge
 ·obtain ⟨t, ht⟩ : ∃ w, x.Passings[k]? = some w := ⟨_, List.getElem?_eq_getElem hlt⟩
  simp -dsimp -implicitDefEqProofs [ht, yI hlt]
  refine yg (yE t.Time 0 1000000) (by simp) rfl ?_
  cases h6 : inRange t.Time 0 1000000 with
  | false => simp -dsimp -implicitDefEqProofs; exact wno (yA6 ht (by simp [ycQ, h6]))
  | true =>
  simp -dsimp -implicitDefEqProofs
  refine fun hlW => ⟨by unfold maxLen at hlW; unfold inI; omega, ?_⟩
  refine yg (yE t.Work 0 (x.Works.length - 1)) (by simp) rfl ?_
  cases h7 : inRange t.Work 0 (x.Works.length - 1) with
  | false => simp -dsimp -implicitDefEqProofs; exact wno (yA6 ht (by simp [ycQ, h7]))
  | true =>
  simp -dsimp -implicitDefEqProofs
  refine yg (ybu t.Train (hsP.2 t (List.mem_of_getElem? ht))) (by simp) rfl ?_
  cases h8 : yH t.Train with
  | false => simp -dsimp -implicitDefEqProofs; exact wno (yA6 ht (by simp [ycQ, h8]))
  | true =>
  simp -dsimp -implicitDefEqProofs
  refine ⟨yu hlt hlP, k + 1, ⟨hlt, yL (p := ycQ x.Works.length) ht hall (by simp [ycQ, h6, h7, h8])⟩, by omega, ?_⟩
  apply yj <;> simp [AV.yc, AV.yA, Obj.yc]
 have hP := yQ (p := ycQ x.Works.length) hge hall
 simp -dsimp -implicitDefEqProofs [yah hge]
 refine yg (yt4 x.Tariff) (by simp) rfl ?_
 cases h7 : ya1 x.Tariff with
 | false => simp -dsimp -implicitDefEqProofs; simp [yai, h7]
 | true =>
 simp -dsimp -implicitDefEqProofs
 refine yg (yxa x.Book) (by simp) rfl ?_
 cases h8 : yks x.Book with
 | false => simp -dsimp -implicitDefEqProofs; simp [yai, h8]
 | true =>
 simp -dsimp -implicitDefEqProofs
 refine yg (yE x.Start 0 1000000000) (by simp) rfl ?_
 cases h9 : inRange x.Start 0 1000000000 with
 | false => simp -dsimp -implicitDefEqProofs; simp [yai, h9]
 | true =>
 simp -dsimp -implicitDefEqProofs
 refine yg (yE x.In 0 1000000000) (by simp) rfl ?_
 cases h10 : inRange x.In 0 1000000000 with
 | false => simp -dsimp -implicitDefEqProofs; simp [yai, h10]
 | true =>
 simp -dsimp -implicitDefEqProofs
 refine yg (yE x.Out 0 1000000000) (by simp) rfl ?_
 simp -dsimp -implicitDefEqProofs
 have a3 : x.Arrived.length ≤ 500 := by omega
 have a4 : x.Entered.length ≤ 2000 := by omega
 have a5 : x.Passings.length ≤ 500 := by omega
 have hl : ybt x = true := by simp only [ybt, a3, a4, a5, hA, hE, hP]; simp
 simp [yai, h1, h2, h7, h8, h9, h10, hl]
theorem yyH (x : Waterway) (hs : x.small) : yF Tryz.prog yge [.agg (x.enc.map .c)] (.c (.b (ybc x))) := by
 have hsM := hs.2.2.2.1
 have hsW := hs.2.2.1
 refine yt yra (by simp) fun hwf => ?_
 simp -dsimp -implicitDefEqProofs [ylm]
 intro hlen
 refine yg (ywy x.Reaches) (by simp) rfl ?_
 cases h1 : ydw x.Reaches with
 | false => simp -dsimp -implicitDefEqProofs; simp [ybc, h1]
 | true =>
 simp -dsimp -implicitDefEqProofs
 refine ⟨fun h2 => ?_, fun h2 => (pno2 (by omega))⟩
 intro _
 refine ⟨fun h3 => ?_, fun h3 => (pno3 (by omega))⟩
 intro _
 refine ⟨fun h4 => ?_, fun h4 => (pno4 (by omega))⟩
 refine fun _ => ⟨by unfold maxLen at hlen; unfold inI; omega, ?_⟩
 refine ⟨fun h5 => (pno5 (by omega)), fun h5 => ?_⟩
 have h3' : x.Ways.length = x.Reaches.length := by omega
 have h4' : x.Movers.length = x.Reaches.length := by omega
 have h5' : x.Works.length + 1 = x.Reaches.length := by omega
 have hz : (x.Ways.zip x.Movers).length = x.Ways.length := by rw [List.length_zip]; omega
 refine yh (ι := Nat) (fun k => k ≤ x.Ways.length ∧ (∀ p ∈ (x.Ways.zip x.Movers).take k, ybK p = true) ∧ ∀ w ∈ x.Works.take k, yaS w = true) (fun k => yP [(1, .box 1 0), (3, .c (.i x.Reaches.length)), (4, .c (.i k))] [(1, .box (x.enc.map .c))]) (fun k => x.Ways.length - k) 0 (by simp) (by apply yj <;> simp [AV.yc, AV.yA, Obj.yc]) ?_
 rintro k ⟨hk, hall, hallw⟩
 rcases Nat.lt_or_ge k x.Ways.length with hlt | hge
 ·obtain ⟨w, hw⟩ : ∃ w, x.Ways[k]? = some w := ⟨_, List.getElem?_eq_getElem hlt⟩
  obtain ⟨ms, hm⟩ : ∃ w, x.Movers[k]? = some w := ⟨_, List.getElem?_eq_getElem (by omega)⟩
  have hkm : k < x.Movers.length := by omega
  have hkr : k < x.Reaches.length := by omega
  have gm := (List.getElem?_eq_some_iff.1 hm).2
  have gw := (List.getElem?_eq_some_iff.1 hw).2
  have hp : (x.Ways.zip x.Movers)[k]? = some (w, ms) := List.getElem?_zip_eq_some.2 ⟨hw, hm⟩
  have hsm := hsM.2 ms (List.mem_of_getElem? hm)
  simp -dsimp -implicitDefEqProofs [hw, gw, yI hlt, hlt, hkr, yI hkr]
  refine yg (ysF w) (by simp) rfl ?_
  cases h6 : ymn w with
  | false => simp -dsimp -implicitDefEqProofs; exact ydU hw hm (yE3 h6)
  | true =>
  simp -dsimp -implicitDefEqProofs [hm, gm, hkm, yI hkm]
  intro hlm
  refine ⟨fun h7 => ?_, fun h7 => (ydU hw hm (yFg (by omega)))⟩
  refine ⟨by unfold maxLen at hlen; unfold inI; omega, fun hc => ?_, fun hc => ?_⟩
  ·obtain ⟨wk, hwk⟩ : ∃ w, x.Works[k]? = some w := ⟨_, List.getElem?_eq_getElem (by omega)⟩
   have gk := (List.getElem?_eq_some_iff.1 hwk).2
   have hkw : k < x.Works.length := by omega
   refine ⟨hkw, ?_⟩
   simp -dsimp -implicitDefEqProofs [hwk]
   refine yg (yxb wk (hsW.2 wk (List.mem_of_getElem? hwk))) (by simp) rfl ?_
   cases h10 : yaS wk with
   | false => simp -dsimp -implicitDefEqProofs; exact ysN hwk h10
   | true =>
   simp -dsimp -implicitDefEqProofs
   refine yh (ι := Nat) (fun i => i ≤ ms.length ∧ ∀ m ∈ ms.take i, ya8 m w = true) (fun i => yP [(1, .box 1 0), (3, .c (.i x.Reaches.length)), (4, .c (.i k)), (5, .c (.i i))] [(1, .box (x.enc.map .c))]) (fun i => ms.length - i) 0 (by simp) (by apply yj <;> simp [AV.yc, AV.yA, Obj.yc]) ?_
   rintro i ⟨hi, hall2⟩
   rcases Nat.lt_or_ge i ms.length with hlt2 | hge2
   ·obtain ⟨m, hmm⟩ : ∃ w, ms[i]? = some w := ⟨_, List.getElem?_eq_getElem hlt2⟩
    have g2 := (List.getElem?_eq_some_iff.1 hmm).2
    simp -dsimp -implicitDefEqProofs [hw, gw, hlt, yI hlt, hm, gm, hkm, yI hkm, hmm, g2, yI hlt2, hlt2]
    intro _
    refine ⟨_, _, yoS m w (hsm.2 m (List.mem_of_getElem? hmm)), by simp, .inr rfl, ?_⟩
    cases h8 : ya8 m w with
    | false => simp -dsimp -implicitDefEqProofs; exact ydU hw hm (yBK hmm h8)
    | true =>
     simp -dsimp -implicitDefEqProofs
     refine ⟨yu hlt2 hlm, i + 1, ⟨hlt2, yL (p := fun m => ya8 m w) hmm hall2 h8⟩, by omega, ?_⟩
     apply yj <;> simp [AV.yc, AV.yA, Obj.yc]
   ·have h9 := yQ (p := fun m => ya8 m w) hge2 hall2
    have hlane : ybK (w, ms) = true := by
     have : ms.length ≤ 24 := by omega
     simp [ybK, h6, this, h9]
    simp -dsimp -implicitDefEqProofs [hm, gm, hkm, yI hkm, yah hge2]
    refine fun _ => ⟨by unfold maxLen at hlen; unfold inI; omega, k + 1, ⟨hlt, fun a b hab => yL (p := ybK) hp hall hlane (a, b) hab, yL (p := yaS) hwk hallw h10⟩, by omega, ?_⟩
    apply yj <;> simp [AV.yc, AV.yA, Obj.yc]
  ·have hwa : x.Works.take (k + 1) = x.Works.take k := by rw [List.take_of_length_le (by omega), List.take_of_length_le (by omega)]
   refine yh (ι := Nat) (fun i => i ≤ ms.length ∧ ∀ m ∈ ms.take i, ya8 m w = true) (fun i => yP [(1, .box 1 0), (3, .c (.i x.Reaches.length)), (4, .c (.i k)), (5, .c (.i i))] [(1, .box (x.enc.map .c))]) (fun i => ms.length - i) 0 (by simp) (by apply yj <;> simp [AV.yc, AV.yA, Obj.yc]) ?_
   rintro i ⟨hi, hall2⟩
   rcases Nat.lt_or_ge i ms.length with hlt2 | hge2
   ·obtain ⟨m, hmm⟩ : ∃ w, ms[i]? = some w := ⟨_, List.getElem?_eq_getElem hlt2⟩
    have g2 := (List.getElem?_eq_some_iff.1 hmm).2
    simp -dsimp -implicitDefEqProofs [hw, gw, hlt, yI hlt, hm, gm, hkm, yI hkm, hmm, g2, yI hlt2, hlt2]
    intro _
    refine ⟨_, _, yoS m w (hsm.2 m (List.mem_of_getElem? hmm)), by simp, .inr rfl, ?_⟩
    cases h8 : ya8 m w with
    | false => simp -dsimp -implicitDefEqProofs; exact ydU hw hm (yBK hmm h8)
    | true =>
     simp -dsimp -implicitDefEqProofs
     refine ⟨yu hlt2 hlm, i + 1, ⟨hlt2, yL (p := fun m => ya8 m w) hmm hall2 h8⟩, by omega, ?_⟩
     apply yj <;> simp [AV.yc, AV.yA, Obj.yc]
   ·have h9 := yQ (p := fun m => ya8 m w) hge2 hall2
    have hlane : ybK (w, ms) = true := by
     have : ms.length ≤ 24 := by omega
     simp [ybK, h6, this, h9]
    simp -dsimp -implicitDefEqProofs [hm, gm, hkm, yI hkm, yah hge2]
    refine fun _ => ⟨by unfold maxLen at hlen; unfold inI; omega, k + 1, ⟨hlt, fun a b hab => yL (p := ybK) hp hall hlane (a, b) hab, by rw [hwa]; exact hallw⟩, by omega, ?_⟩
    apply yj <;> simp [AV.yc, AV.yA, Obj.yc]
 ·simp -dsimp -implicitDefEqProofs [yah hge]
  refine ⟨by omega, fun _ => ?_⟩
  have hl := yQ (p := ybK) (by rw [hz]; exact hge) hall
  have h9 := yQ (p := yaS) (l := x.Works) (k := k) (by omega) hallw
  have h2' : 2 ≤ x.Reaches.length := by omega
  simp [ybc, h1, h2', h3', h4', h5', hl, h9]
theorem yzo (x : Waterway) (hs : x.small) : yF Tryz.prog yga [.agg (x.enc.map .c)] (.c (.b (ybt x))) := by
 have hsA := hs.2.2.2.2.1
 have hsP := hs.2.2.2.2.2.2.2.2
 refine yt yrk (by simp) fun hwf => ?_
 simp -dsimp -implicitDefEqProofs [ykQ]
 intro hlA
 refine ⟨fun h3 => ?_, fun h3 => (lno1 (by omega))⟩
 intro hlE
 refine ⟨fun h4 => ?_, fun h4 => (lno2 (by omega))⟩
 intro hlP
 refine ⟨fun h5 => (lno3 (by omega)), fun h5 => ?_⟩
 refine yh (ι := Nat) (fun k => k ≤ x.Arrived.length ∧ ∀ t ∈ x.Arrived.take k, yH t = true) (fun k => yP [(1, .box 1 0), (3, .c (.i k))] [(1, .box (x.enc.map .c))]) (fun k => x.Arrived.length - k) 0 (by simp) (by apply yj <;> simp [AV.yc, AV.yA, Obj.yc]) ?_
 rintro k ⟨hk, hall⟩
 rcases Nat.lt_or_ge k x.Arrived.length with hlt | hge
 ·obtain ⟨t, ht⟩ : ∃ w, x.Arrived[k]? = some w := ⟨_, List.getElem?_eq_getElem hlt⟩
  have g1 := (List.getElem?_eq_some_iff.1 ht).2
  simp -dsimp -implicitDefEqProofs [ht, g1, hlt, yI hlt]
  intro _
  refine yg (ybg t (hsA.2 t (List.mem_of_getElem? ht))) (by simp) rfl ?_
  cases h6 : yH t with
  | false => simp -dsimp -implicitDefEqProofs; exact lno4 ht h6
  | true =>
   simp -dsimp -implicitDefEqProofs
   refine ⟨yu hlt hlA, k + 1, ⟨hlt, yL (p := yH) ht hall h6⟩, by omega, ?_⟩
   apply yj <;> simp [AV.yc, AV.yA, Obj.yc]
 have hA := yQ (p := yH) hge hall
 simp -dsimp -implicitDefEqProofs [yah hge]
 refine fun _ => yh (ι := Nat) (fun k => k ≤ x.Entered.length ∧ ∀ t ∈ x.Entered.take k, inRange t 1 9999 = true) (fun k => yP [(1, .box 1 0), (4, .c (.i k))] [(1, .box (x.enc.map .c))]) (fun k => x.Entered.length - k) 0 (by simp) (by apply yj <;> simp [AV.yc, AV.yA, Obj.yc]) ?_
 clear hall hk hge k
 rintro k ⟨hk, hall⟩
 rcases Nat.lt_or_ge k x.Entered.length with hlt | hge
 ·obtain ⟨t, ht⟩ : ∃ w, x.Entered[k]? = some w := ⟨_, List.getElem?_eq_getElem hlt⟩
  have g1 := (List.getElem?_eq_some_iff.1 ht).2
  simp -dsimp -implicitDefEqProofs [ht, g1, hlt, yI hlt]
  intro _
  refine yg (yC t 1 9999) (by simp) rfl ?_
  cases h6 : inRange t 1 9999 with
  | false => simp -dsimp -implicitDefEqProofs; exact lno5 ht h6
  | true =>
   simp -dsimp -implicitDefEqProofs
   refine ⟨yu hlt hlE, k + 1, ⟨hlt, yL (p := fun n => inRange n 1 9999) ht hall h6⟩, by omega, ?_⟩
   apply yj <;> simp [AV.yc, AV.yA, Obj.yc]
 have hE := yQ (p := fun n => inRange n 1 9999) hge hall
 simp -dsimp -implicitDefEqProofs [yah hge]
 refine fun _ => yh (ι := Nat) (fun k => k ≤ x.Passings.length ∧ ∀ t ∈ x.Passings.take k, ycQ x.Works.length t = true) (fun k => yP [(1, .box 1 0), (5, .c (.i k))] [(1, .box (x.enc.map .c))]) (fun k => x.Passings.length - k) 0 (by simp) (by apply yj <;> simp [AV.yc, AV.yA, Obj.yc]) ?_
 clear hall hk hge k
 rintro k ⟨hk, hall⟩
 rcases Nat.lt_or_ge k x.Passings.length with hlt | hge
 ·obtain ⟨t, ht⟩ : ∃ w, x.Passings[k]? = some w := ⟨_, List.getElem?_eq_getElem hlt⟩
  have g1 := (List.getElem?_eq_some_iff.1 ht).2
  simp -dsimp -implicitDefEqProofs [ht, g1, hlt, yI hlt]
  intro _
  refine yg (yC t.Time 0 1000000) (by simp) rfl ?_
  cases h6 : inRange t.Time 0 1000000 with
  | false => simp -dsimp -implicitDefEqProofs; exact yA6 ht (by simp [ycQ, h6])
  | true =>
  simp -dsimp -implicitDefEqProofs
  refine fun hlW => ⟨by unfold maxLen at hlW; unfold inI; omega, ?_⟩
  refine yg (yC t.Work 0 (x.Works.length - 1)) (by simp) rfl ?_
  cases h7 : inRange t.Work 0 (x.Works.length - 1) with
  | false => simp -dsimp -implicitDefEqProofs; exact yA6 ht (by simp [ycQ, h7])
  | true =>
  simp -dsimp -implicitDefEqProofs
  refine yg (ybg t.Train (hsP.2 t (List.mem_of_getElem? ht))) (by simp) rfl ?_
  cases h8 : yH t.Train with
  | false => simp -dsimp -implicitDefEqProofs; exact yA6 ht (by simp [ycQ, h8])
  | true =>
  simp -dsimp -implicitDefEqProofs
  refine ⟨yu hlt hlP, k + 1, ⟨hlt, yL (p := ycQ x.Works.length) ht hall (by simp [ycQ, h6, h7, h8])⟩, by omega, ?_⟩
  apply yj <;> simp [AV.yc, AV.yA, Obj.yc]
 have hP := yQ (p := ycQ x.Works.length) hge hall
 simp -dsimp -implicitDefEqProofs [yah hge]
 intro _
 have a3 : x.Arrived.length ≤ 500 := by omega
 have a4 : x.Entered.length ≤ 2000 := by omega
 have a5 : x.Passings.length ≤ 500 := by omega
 simp only [ybt, a3, a4, a5, hA, hE, hP]; simp
theorem yq2 (x : Waterway) (hs : x.small) : yF Tryz.prog yey [.agg (x.enc.map .c)] (.c (.b (yai x))) := by
 refine yt ypx (by simp) fun hwf => ?_
 simp -dsimp -implicitDefEqProofs [yiw]
 refine yg (yC x.Time 0 1000000) (by simp) rfl ?_
 cases h1 : inRange x.Time 0 1000000 with
 | false => simp -dsimp -implicitDefEqProofs; simp [yai, h1]
 | true =>
 simp -dsimp -implicitDefEqProofs
 refine yg (yC x.Start 0 1000000000) (by simp) rfl ?_
 cases h2 : inRange x.Start 0 1000000000 with
 | false => simp -dsimp -implicitDefEqProofs; simp [yai, h2]
 | true =>
 simp -dsimp -implicitDefEqProofs
 refine yg (yC x.In 0 1000000000) (by simp) rfl ?_
 cases h3 : inRange x.In 0 1000000000 with
 | false => simp -dsimp -implicitDefEqProofs; simp [yai, h3]
 | true =>
 simp -dsimp -implicitDefEqProofs
 refine yg (yC x.Out 0 1000000000) (by simp) rfl ?_
 cases h4 : inRange x.Out 0 1000000000 with
 | false => simp -dsimp -implicitDefEqProofs; simp [yai, h4]
 | true =>
 simp -dsimp -implicitDefEqProofs
 refine yg (yyH x hs) (by simp) rfl ?_
 cases h5 : ybc x with
 | false => simp -dsimp -implicitDefEqProofs; simp [yai, h5]
 | true =>
 simp -dsimp -implicitDefEqProofs
 refine yg (yzo x hs) (by simp) rfl ?_
 cases h6 : ybt x with
 | false => simp -dsimp -implicitDefEqProofs; simp [yai, h6]
 | true =>
 simp -dsimp -implicitDefEqProofs
 refine yg (yuJ x.Tariff) (by simp) rfl ?_
 cases h7 : ya1 x.Tariff with
 | false => simp -dsimp -implicitDefEqProofs; simp [yai, h7]
 | true =>
 simp -dsimp -implicitDefEqProofs
 refine yg (yxC x.Book) (by simp) rfl ?_
 simp -dsimp -implicitDefEqProofs
 simp [yai, h1, h2, h3, h4, h5, h6, h7]
theorem ybD {α : Type} {f : α → List C} (h : ∀ x, ∀ c ∈ f x, c.closed) (k : Nat) (l : List α) : (C.ot k (l.map f)).closed := by
 simp only [C.closed, List.mem_map]
 rintro r ⟨x, _, rfl⟩ c hc
 exact h x c hc
theorem yhi {l : List C} (h : ∀ c ∈ l, c.closed) : (AV.agg (l.map .c)).closed := by
 show ∀ c, c ∈ AV.cs (l.map AV.c) → c.closed
 rw [ypX]; exact h
theorem yfP {k : Int} (h : 0 ≤ k) : inI (k.tmod 3) := by
 have := Int.tmod_nonneg 3 h
 have := Int.tmod_lt_of_pos k (b := 3) (by omega)
 unfold inI; omega
theorem yir (xs : List Boat) : ∀ c ∈ yS xs, c.closed := by simp [yS, C.closed]
theorem Train.yas (e : Train) : ∀ c ∈ e.yO, c.closed := by
 simp only [Train.yO, List.mem_cons, List.not_mem_nil, or_false, forall_eq_or_imp, forall_eq]
 exact ⟨by simp [C.closed], ybD yir _ _⟩
theorem Mover.yas (e : Mover) : ∀ c ∈ e.yO, c.closed := by
 simp only [Mover.yO, List.mem_cons, List.not_mem_nil, or_false, forall_eq_or_imp, forall_eq]
 exact ⟨by simp [C.closed], ybD yir _ _, by simp [C.closed]⟩
theorem Reach.yas (e : Reach) : ∀ c ∈ e.yO, c.closed := by
 simp only [Reach.yO, List.mem_cons, List.not_mem_nil, or_false, forall_eq_or_imp, forall_eq]
 exact ⟨by simp [C.closed], by simp [C.closed], by simp [C.closed]⟩
theorem Tariff.yas (e : Tariff) : ∀ c ∈ e.yO, c.closed := by
 simp only [Tariff.yO, List.mem_cons, List.not_mem_nil, or_false, forall_eq_or_imp, forall_eq]
 exact ⟨by simp [C.closed], by simp [C.closed], by simp [C.closed], by simp [C.closed]⟩
theorem yyO (xs : List Reach) (hl : ygT xs) : ycE Tryz.prog ydE [.c (.sl 3 (xs.map Reach.enc))] (.c (.ot 3 (xs.map Reach.yO))) := by
 refine ybb yli (by simp) fun hwf => ?_
 simp -dsimp -implicitDefEqProofs [ygz]
 intro hlen
 have hl1 := hl.1
 refine ⟨by omega, ?_⟩
 refine yh (ι := Nat) (fun k => k ≤ xs.length) (fun k => yP [(0, .c (.sl 3 (xs.map Reach.enc))), (3, .own 7 3 xs.length), (4, .c (.i k))] [(7, .tr 3 0 (partly Reach.yO [.sl 2 [], .i 0, .sl 1 []] xs k))]) (fun k => xs.length - k) 0 (by simp) (by apply yj <;> simp [AV.yc, AV.yA, Obj.yc, yX, Obj.leO]) ?_
 rintro k hk
 rcases Nat.lt_or_ge k xs.length with hlt | hge
 ·obtain ⟨e, he⟩ : ∃ e, xs[k]? = some e := ⟨_, List.getElem?_eq_getElem hlt⟩
  have hs := yae (f := Reach.yO) (z := [.sl 2 [], .i 0, .sl 1 []]) he
  have hd := yam (f := Reach.yO) (z := [.sl 2 [], .i 0, .sl 1 []]) (n := 3) rfl hlt
  simp only [Reach.yO] at hs
  simp -dsimp -implicitDefEqProofs [he, yI hlt]
  intro _
  refine yal (yAN e (hl.2 e (List.mem_of_getElem? he))) (by simp) (yhi (Reach.yas _)) (by simp [yau]) ?_
  simp -dsimp -implicitDefEqProofs [yI hlt, yaf hk, yK, hd, hs]
  exact ⟨hlt, yu hlt hlen, k + 1, hlt, by omega, by apply yj <;> simp [AV.yc, AV.yA, Obj.yc, Obj.leO]⟩
 ·simp -dsimp -implicitDefEqProofs [yah hge]
  intro _
  rw [yad hge, yK]
def ya7 (e : Reach) : Nat := 2 * e.Table.length + 1 + e.Pipe.length
def ycZ (k : Int) (e : Reach) : List C := [.ow 2 (marked mkP 2 [] k e.Table.length), .i (k + 2 * (e.Table.length : Int)), .ow 1 (marked yac 1 [] (k + 2 * (e.Table.length : Int) + 1) e.Pipe.length)]
def yxG (k : Int) (e : Reach) : List C := [.sl 2 (marked mkP 2 [] k e.Table.length), .i (k + 2 * (e.Table.length : Int)), .sl 1 (marked yac 1 [] (k + 2 * (e.Table.length : Int) + 1) e.Pipe.length)]
theorem yo5 (k : Int) (e : Reach) : ybV (ycZ k e) = some (yxG k e) := by simp [ycZ, yxG, ybV, C.shr]
theorem yvB (xs : List Reach) (k : Int) (h0 : 0 ≤ k) (h1 : k + cnt ya7 xs ≤ 8000000000000000000) :
 InF Tryz.prog yej (.c (ct 3 (xs.map Reach.yO))) (.c (ct 3 (yaF ycZ ya7 k xs))) [.c (.i k)] (.c (.i (k + cnt ya7 xs))) := by
 rcases Nat.eq_zero_or_pos xs.length with hx | hx
 ·have : xs = [] := List.length_eq_zero_iff.1 hx
  subst this
  refine ybq yig (by simp) (by simp) rfl fun hwf => ?_
  simp -dsimp -implicitDefEqProofs [yeT, yaF, cnt]
  refine yh (ι := Unit) (fun _ => True) (fun _ => yP [(0, .c (.sl 3 [])), (1, .c (.i k)), (5, .c (.i 0)), (1000000, .c (.sl 3 []))] []) (fun _ => 0) () trivial (by apply yj <;> simp [AV.yc, AV.yA, Obj.yc]) ?_
  rintro _ _
  simp -dsimp -implicitDefEqProofs
 ·rw [ycp (by simpa using hx), ycp (by rw [yU]; exact hx)]
  refine ybq yig (by simp) (by simp) rfl fun hwf => ?_
  simp -dsimp -implicitDefEqProofs [yeT]
  refine yh (ι := Nat) (fun i => i ≤ xs.length) (fun i => yP [(0, .own 0 3 xs.length), (1, .c (.i (k + yaY ya7 xs i))), (5, .c (.i i)), (1000000, .own 0 3 xs.length)] [(0, .tr 3 0 (ycc ycZ Reach.yO ya7 k xs i))]) (fun i => xs.length - i) 0 (by simp) (by apply yj <;> simp [AV.yc, AV.yA, Obj.yc, ycW, yb0, Obj.leO]) ?_
  rintro i hi
  rcases Nat.lt_or_ge i xs.length with hlt | hge
  ·obtain ⟨e, he⟩ : ∃ e, xs[i]? = some e := ⟨_, List.getElem?_eq_getElem hlt⟩
   have hg := ydZ (f := ycZ) (g := Reach.yO) (n := ya7) (k := k) he
   have hl := yd2 (f := ycZ) (g := Reach.yO) (n := ya7) (k := k) (xs := xs) (i := i)
   have hs := yd4 (f := ycZ) (g := Reach.yO) (n := ya7) (k := k) he
   have hc := ybY (n := ya7) he
   have hle := ydr (n := ya7) (xs := xs) (i := i + 1)
   have hn : ya7 e = 2 * e.Table.length + 1 + e.Pipe.length := rfl
   generalize hM : ycc ycZ Reach.yO ya7 k xs i = M at *
   generalize hK : (k + (yaY ya7 xs i : Int)) = K at *
   have hlt2 : i < M.length := by omega
   have g1 : M[i] = Reach.yO e := (List.getElem?_eq_some_iff.1 hg).2
   have hself : ∀ a, (M.set i a)[i]? = some a := fun a => List.getElem?_set_self hlt2
   have hgetD : ∀ a, (M.set i a)[i]?.getD [] = a := fun a => by rw [hself]; rfl
   simp only [Reach.yO] at hg g1
   have hk : 0 ≤ K := by omega
   simp -dsimp -implicitDefEqProofs [yI hlt, hg, hl, hlt2, g1, hself, setAt]
   intro hlen
   repeat (refine ⟨by first | exact hlt | (unfold inI; omega) | exact yfP (by omega), ?_⟩)
   refine ybB (k0 := 3) (j := 0) (i := (i : Int)) (r := [.ow 2 (e.Table.map Point.enc), .i e.Volume, .ow 1 (e.Pipe.map yac)]) (c := .ow 2 (e.Table.map Point.enc)) (c' := .ow 2 (marked mkP 2 [] K e.Table.length)) (yvJ e.Table (K) (by omega) (by omega)) (by simp) rfl rfl rfl (by first | exact hself _ | simpa using hg) rfl ⟨_, by rw [yZ]; simp, rfl, rfl, rfl⟩ (by simp [C.sz]) ?_
   simp -dsimp -implicitDefEqProofs [setAt, hself, hlt2, hl]
   repeat (refine ⟨by first | exact hlt | (unfold inI; omega) | exact yfP (by omega), ?_⟩)
   refine ybB (k0 := 3) (j := 2) (i := (i : Int)) (r := [.ow 2 (marked mkP 2 [] K e.Table.length), .i (K + 2 * (e.Table.length : Int)), .ow 1 (e.Pipe.map yac)]) (c := .ow 1 (e.Pipe.map yac)) (c' := .ow 1 (marked yac 1 [] (K + 2 * (e.Table.length : Int) + 1) e.Pipe.length)) (yb1 e.Pipe (K + 2 * (e.Table.length : Int) + 1) (by omega) (by omega)) (by simp) rfl rfl rfl (by first | exact hself _ | simpa using hg) rfl ⟨_, by rw [yZ]; simp, rfl, rfl, rfl⟩ (by simp [C.sz]) ?_
   simp -dsimp -implicitDefEqProofs [setAt, hself, hlt2, hl]
   repeat (refine ⟨by first | exact hlt | (unfold inI; omega) | exact yfP (by omega) | exact yu hlt hlen, ?_⟩)
   refine ⟨i + 1, hlt, by omega, ?_⟩
   simp only [ycZ] at hs
   apply yj <;> simp [AV.yc, AV.yA, Obj.yc, Obj.leO, hs, hself] <;> omega
  ·have : i = xs.length := by omega
   subst this
   simp -dsimp -implicitDefEqProofs
   intro _
   rw [ydX (Nat.le_refl _), ycC (Nat.le_refl _), List.take_of_length_le (by rw [yU]; exact Nat.le_refl _)]
   exact ⟨rfl, rfl⟩
theorem yBR (xs : List Way) (hl : yjV xs) : ycE Tryz.prog yfI [.c (.sl 2 (xs.map Way.enc))] (.c (.ow 2 (xs.map Way.enc))) := by
 refine ybb ynE (by simp) fun hwf => ?_
 simp -dsimp -implicitDefEqProofs [yiT]
 intro hlen
 have hl1 := hl.1
 refine ⟨by omega, ?_⟩
 refine yh (ι := Nat) (fun k => k ≤ xs.length) (fun k => yP [(0, .c (.sl 2 (xs.map Way.enc))), (3, .own 7 2 xs.length), (4, .c (.i k))] [(7, .row 2 (partly Way.enc [.i 0, .i 0] xs k))]) (fun k => xs.length - k) 0 (by simp) (by apply yj <;> simp [AV.yc, AV.yA, Obj.yc, yX]) ?_
 rintro k hk
 rcases Nat.lt_or_ge k xs.length with hlt | hge
 ·obtain ⟨e, he⟩ : ∃ e, xs[k]? = some e := ⟨_, List.getElem?_eq_getElem hlt⟩
  have hs := yae (f := Way.enc) (z := [.i 0, .i 0]) he
  have hd := yam (f := Way.enc) (z := [.i 0, .i 0]) (n := 2) rfl hlt
  simp only [Way.enc] at hs
  simp -dsimp -implicitDefEqProofs [he, yI hlt]
  refine fun _ => yJ (yAg e) (by simp) rfl ?_
  simp -dsimp -implicitDefEqProofs [yI hlt, yaf hk, hd, hs]
  exact ⟨hlt, yu hlt hlen, k + 1, hlt, by omega, by apply yj <;> simp [AV.yc, AV.yA, Obj.yc]⟩
 ·simp -dsimp -implicitDefEqProofs [yah hge]
  intro _
  rw [yad hge, yK]
def yi3 (k : Int) : List C := [.i k, .i (k + 1)]
theorem yyK (xs : List Way) (k : Int) (h0 : 0 ≤ k) (h1 : k + 2 * xs.length ≤ 8000000000000000000) :
 InF Tryz.prog ygw (.c (cw 2 (xs.map Way.enc))) (.c (cw 2 (marked yi3 2 [] k xs.length))) [.c (.i k)] (.c (.i (k + 2 * xs.length))) := by
 rcases Nat.eq_zero_or_pos xs.length with hx | hx
 ·have : xs = [] := List.length_eq_zero_iff.1 hx
  subst this
  refine ybq yk6 (by simp) (by simp) rfl fun hwf => ?_
  simp -dsimp -implicitDefEqProofs [ygp, marked]
  refine yh (ι := Unit) (fun _ => True) (fun _ => yP [(0, .c (.sl 2 [])), (1, .c (.i k)), (5, .c (.i 0)), (1000000, .c (.sl 2 []))] []) (fun _ => 0) () trivial (by apply yj <;> simp [AV.yc, AV.yA, Obj.yc]) ?_
  rintro _ _
  simp -dsimp -implicitDefEqProofs
 ·rw [ybx (by simpa using hx), ybx (by rw [yZ]; exact hx)]
  refine ybq yk6 (by simp) (by simp) rfl fun hwf => ?_
  simp -dsimp -implicitDefEqProofs [ygp]
  refine yh (ι := Nat) (fun i => i ≤ xs.length) (fun i => yP [(0, .own 0 2 xs.length), (1, .c (.i (k + 2 * i))), (5, .c (.i i)), (1000000, .own 0 2 xs.length)] [(0, .row 2 (marked yi3 2 (xs.map Way.enc) k i))]) (fun i => xs.length - i) 0 (by simp) (by apply yj <;> simp [AV.yc, AV.yA, Obj.yc, yd8]) ?_
  rintro i hi
  rcases Nat.lt_or_ge i xs.length with hlt | hge
  ·obtain ⟨e, he⟩ : ∃ e, xs[i]? = some e := ⟨_, List.getElem?_eq_getElem hlt⟩
   have hg := yfn (mk := yi3) (c := 2) (k := k) (rows := xs.map Way.enc) (i := i) (r := e.enc) (by simp [he])
   have hl := yfo (mk := yi3) (c := 2) (k := k) (rows := xs.map Way.enc) (i := i) (by simpa using hi)
   have hs := yfD (mk := yi3) (c := 2) (k := k) (rows := xs.map Way.enc) (i := i) (by simpa using hlt)
   rw [List.length_map] at hl
   generalize marked yi3 2 (xs.map Way.enc) k i = M at *
   have hlt2 : i < M.length := by omega
   have hself : ∀ a, (M.set i a)[i]? = some a := fun a => List.getElem?_set_self hlt2
   simp only [yi3] at hs
   simp only [Way.enc] at hg
   simp -dsimp -implicitDefEqProofs [yI hlt, hg, hl, hlt2, hself]
   intro hlen
   repeat (refine ⟨by first | exact hlt | (unfold inI; omega) | (have := Int.tmod_nonneg 3 (show 0 ≤ k + 2 * (i : Int) by omega); have := Int.tmod_lt_of_pos (k + 2 * (i : Int)) (b := 3) (by omega); unfold inI; omega), ?_⟩)
   refine ⟨i + 1, hlt, by omega, ?_⟩
   apply yj <;> simp [AV.yc, AV.yA, Obj.yc, hs, hself] <;> omega
  ·have : i = xs.length := by omega
   subst this
   simp -dsimp -implicitDefEqProofs
   intro _
   have e := yfC (mk := yi3) (c := 2) (rows := xs.map Way.enc) (k := k) (i := xs.length) (by simp)
   rw [e, List.length_map, List.take_of_length_le (by rw [yZ]; exact Nat.le_refl _)]
theorem yyI (xs : List Pause) (hl : ygW xs) : ycE Tryz.prog ydy [.c (.sl 2 (xs.map Pause.enc))] (.c (.ow 2 (xs.map Pause.enc))) := by
 refine ybb yla (by simp) fun hwf => ?_
 simp -dsimp -implicitDefEqProofs [yf9]
 intro hlen
 have hl1 := hl.1
 refine ⟨by omega, ?_⟩
 refine yh (ι := Nat) (fun k => k ≤ xs.length) (fun k => yP [(0, .c (.sl 2 (xs.map Pause.enc))), (3, .own 7 2 xs.length), (4, .c (.i k))] [(7, .row 2 (partly Pause.enc [.i 0, .i 0] xs k))]) (fun k => xs.length - k) 0 (by simp) (by apply yj <;> simp [AV.yc, AV.yA, Obj.yc, yX]) ?_
 rintro k hk
 rcases Nat.lt_or_ge k xs.length with hlt | hge
 ·obtain ⟨e, he⟩ : ∃ e, xs[k]? = some e := ⟨_, List.getElem?_eq_getElem hlt⟩
  have hs := yae (f := Pause.enc) (z := [.i 0, .i 0]) he
  have hd := yam (f := Pause.enc) (z := [.i 0, .i 0]) (n := 2) rfl hlt
  simp only [Pause.enc] at hs
  simp -dsimp -implicitDefEqProofs [he, yI hlt]
  refine fun _ => yJ (yuT e) (by simp) rfl ?_
  simp -dsimp -implicitDefEqProofs [yI hlt, yaf hk, hd, hs]
  exact ⟨hlt, yu hlt hlen, k + 1, hlt, by omega, by apply yj <;> simp [AV.yc, AV.yA, Obj.yc]⟩
 ·simp -dsimp -implicitDefEqProofs [yah hge]
  intro _
  rw [yad hge, yK]
def ycw (k : Int) : List C := [.i k, .i (k + 1)]
theorem ywK (xs : List Pause) (k : Int) (h0 : 0 ≤ k) (h1 : k + 2 * xs.length ≤ 8000000000000000000) :
 InF Tryz.prog yeG (.c (cw 2 (xs.map Pause.enc))) (.c (cw 2 (marked ycw 2 [] k xs.length))) [.c (.i k)] (.c (.i (k + 2 * xs.length))) := by
 rcases Nat.eq_zero_or_pos xs.length with hx | hx
 ·have : xs = [] := List.length_eq_zero_iff.1 hx
  subst this
  refine ybq yh5 (by simp) (by simp) rfl fun hwf => ?_
  simp -dsimp -implicitDefEqProofs [yeh, marked]
  refine yh (ι := Unit) (fun _ => True) (fun _ => yP [(0, .c (.sl 2 [])), (1, .c (.i k)), (5, .c (.i 0)), (1000000, .c (.sl 2 []))] []) (fun _ => 0) () trivial (by apply yj <;> simp [AV.yc, AV.yA, Obj.yc]) ?_
  rintro _ _
  simp -dsimp -implicitDefEqProofs
 ·rw [ybx (by simpa using hx), ybx (by rw [yZ]; exact hx)]
  refine ybq yh5 (by simp) (by simp) rfl fun hwf => ?_
  simp -dsimp -implicitDefEqProofs [yeh]
  refine yh (ι := Nat) (fun i => i ≤ xs.length) (fun i => yP [(0, .own 0 2 xs.length), (1, .c (.i (k + 2 * i))), (5, .c (.i i)), (1000000, .own 0 2 xs.length)] [(0, .row 2 (marked ycw 2 (xs.map Pause.enc) k i))]) (fun i => xs.length - i) 0 (by simp) (by apply yj <;> simp [AV.yc, AV.yA, Obj.yc, yd8]) ?_
  rintro i hi
  rcases Nat.lt_or_ge i xs.length with hlt | hge
  ·obtain ⟨e, he⟩ : ∃ e, xs[i]? = some e := ⟨_, List.getElem?_eq_getElem hlt⟩
   have hg := yfn (mk := ycw) (c := 2) (k := k) (rows := xs.map Pause.enc) (i := i) (r := e.enc) (by simp [he])
   have hl := yfo (mk := ycw) (c := 2) (k := k) (rows := xs.map Pause.enc) (i := i) (by simpa using hi)
   have hs := yfD (mk := ycw) (c := 2) (k := k) (rows := xs.map Pause.enc) (i := i) (by simpa using hlt)
   rw [List.length_map] at hl
   generalize marked ycw 2 (xs.map Pause.enc) k i = M at *
   have hlt2 : i < M.length := by omega
   have hself : ∀ a, (M.set i a)[i]? = some a := fun a => List.getElem?_set_self hlt2
   simp only [ycw] at hs
   simp only [Pause.enc] at hg
   simp -dsimp -implicitDefEqProofs [yI hlt, hg, hl, hlt2, hself]
   intro hlen
   repeat (refine ⟨by first | exact hlt | (unfold inI; omega) | (have := Int.tmod_nonneg 3 (show 0 ≤ k + 2 * (i : Int) by omega); have := Int.tmod_lt_of_pos (k + 2 * (i : Int)) (b := 3) (by omega); unfold inI; omega), ?_⟩)
   refine ⟨i + 1, hlt, by omega, ?_⟩
   apply yj <;> simp [AV.yc, AV.yA, Obj.yc, hs, hself] <;> omega
  ·have : i = xs.length := by omega
   subst this
   simp -dsimp -implicitDefEqProofs
   intro _
   have e := yfC (mk := ycw) (c := 2) (rows := xs.map Pause.enc) (k := k) (i := xs.length) (by simp)
   rw [e, List.length_map, List.take_of_length_le (by rw [yZ]; exact Nat.le_refl _)]
theorem yrY (xs : List Train) (hl : ya9 xs) : ycE Tryz.prog ycz [.c (.sl 2 (xs.map Train.enc))] (.c (.ot 2 (xs.map Train.yO))) := by
 refine ybb ylr (by simp) fun hwf => ?_
 simp -dsimp -implicitDefEqProofs [ygf]
 intro hlen
 have hl1 := hl.1
 refine ⟨by omega, ?_⟩
 refine yh (ι := Nat) (fun k => k ≤ xs.length) (fun k => yP [(0, .c (.sl 2 (xs.map Train.enc))), (3, .own 7 2 xs.length), (4, .c (.i k))] [(7, .tr 2 0 (partly Train.yO [.b false, .sl 1 []] xs k))]) (fun k => xs.length - k) 0 (by simp) (by apply yj <;> simp [AV.yc, AV.yA, Obj.yc, yX, Obj.leO]) ?_
 rintro k hk
 rcases Nat.lt_or_ge k xs.length with hlt | hge
 ·obtain ⟨e, he⟩ : ∃ e, xs[k]? = some e := ⟨_, List.getElem?_eq_getElem hlt⟩
  have hs := yae (f := Train.yO) (z := [.b false, .sl 1 []]) he
  have hd := yam (f := Train.yO) (z := [.b false, .sl 1 []]) (n := 2) rfl hlt
  simp only [Train.yO] at hs
  simp -dsimp -implicitDefEqProofs [he, yI hlt]
  intro _
  refine yal (yna e (hl.2 e (List.mem_of_getElem? he))) (by simp) (yhi (Train.yas _)) (by simp [yau]) ?_
  simp -dsimp -implicitDefEqProofs [yI hlt, yaf hk, yK, hd, hs]
  exact ⟨hlt, yu hlt hlen, k + 1, hlt, by omega, by apply yj <;> simp [AV.yc, AV.yA, Obj.yc, Obj.leO]⟩
 ·simp -dsimp -implicitDefEqProofs [yah hge]
  intro _
  rw [yad hge, yK]
def yG (e : Train) : Nat := 1 + cnt nB e.Rows
def ybz (k : Int) (e : Train) : List C := [.b (decide (k.tmod 3 = 0)), .ot 1 (yaF fB nB (k + 1) e.Rows)]
def yrG (k : Int) (e : Train) : List C := [.b (decide (k.tmod 3 = 0)), .sl 1 (yaF fBs nB (k + 1) e.Rows)]
theorem ykH (k : Int) (e : Train) : ybV (ybz k e) = some (yrG k e) := by simp [ybz, yrG, ybV, C.shr, yaZ yv1]
theorem ypA (xs : List Train) (k : Int) (h0 : 0 ≤ k) (h1 : k + cnt yG xs ≤ 8000000000000000000) :
 InF Tryz.prog ycG (.c (ct 2 (xs.map Train.yO))) (.c (ct 2 (yaF ybz yG k xs))) [.c (.i k)] (.c (.i (k + cnt yG xs))) := by
 rcases Nat.eq_zero_or_pos xs.length with hx | hx
 ·have : xs = [] := List.length_eq_zero_iff.1 hx
  subst this
  refine ybq yil (by simp) (by simp) rfl fun hwf => ?_
  simp -dsimp -implicitDefEqProofs [yeD, yaF, cnt]
  refine yh (ι := Unit) (fun _ => True) (fun _ => yP [(0, .c (.sl 2 [])), (1, .c (.i k)), (5, .c (.i 0)), (1000000, .c (.sl 2 []))] []) (fun _ => 0) () trivial (by apply yj <;> simp [AV.yc, AV.yA, Obj.yc]) ?_
  rintro _ _
  simp -dsimp -implicitDefEqProofs
 ·rw [ycp (by simpa using hx), ycp (by rw [yU]; exact hx)]
  refine ybq yil (by simp) (by simp) rfl fun hwf => ?_
  simp -dsimp -implicitDefEqProofs [yeD]
  refine yh (ι := Nat) (fun i => i ≤ xs.length) (fun i => yP [(0, .own 0 2 xs.length), (1, .c (.i (k + yaY yG xs i))), (5, .c (.i i)), (1000000, .own 0 2 xs.length)] [(0, .tr 2 0 (ycc ybz Train.yO yG k xs i))]) (fun i => xs.length - i) 0 (by simp) (by apply yj <;> simp [AV.yc, AV.yA, Obj.yc, ycW, yb0, Obj.leO]) ?_
  rintro i hi
  rcases Nat.lt_or_ge i xs.length with hlt | hge
  ·obtain ⟨e, he⟩ : ∃ e, xs[i]? = some e := ⟨_, List.getElem?_eq_getElem hlt⟩
   have hg := ydZ (f := ybz) (g := Train.yO) (n := yG) (k := k) he
   have hl := yd2 (f := ybz) (g := Train.yO) (n := yG) (k := k) (xs := xs) (i := i)
   have hs := yd4 (f := ybz) (g := Train.yO) (n := yG) (k := k) he
   have hc := ybY (n := yG) he
   have hle := ydr (n := yG) (xs := xs) (i := i + 1)
   have hn : yG e = 1 + cnt nB e.Rows := rfl
   generalize hM : ycc ybz Train.yO yG k xs i = M at *
   generalize hK : (k + (yaY yG xs i : Int)) = K at *
   have hlt2 : i < M.length := by omega
   have g1 : M[i] = Train.yO e := (List.getElem?_eq_some_iff.1 hg).2
   have hself : ∀ a, (M.set i a)[i]? = some a := fun a => List.getElem?_set_self hlt2
   have hgetD : ∀ a, (M.set i a)[i]?.getD [] = a := fun a => by rw [hself]; rfl
   simp only [Train.yO] at hg g1
   have hk : 0 ≤ K := by omega
   simp -dsimp -implicitDefEqProofs [yI hlt, hg, hl, hlt2, g1, hself, setAt]
   intro hlen
   repeat (refine ⟨by first | exact hlt | (unfold inI; omega) | exact yfP (by omega), ?_⟩)
   refine ybB (k0 := 2) (j := 1) (i := (i : Int)) (r := [.b (decide (K.tmod 3 = 0)), .ot 1 (e.Rows.map yS)]) (c := .ot 1 (e.Rows.map yS)) (c' := .ot 1 (yaF fB nB (K + 1) e.Rows)) (ygX e.Rows (K + 1) (by omega) (by omega)) (by simp) rfl rfl rfl (by first | exact hself _ | simpa using hg) rfl ⟨_, by rw [yU]; simp, rfl, rfl, rfl⟩ (by simp [C.sz]) ?_
   simp -dsimp -implicitDefEqProofs [setAt, hself, hlt2, hl]
   repeat (refine ⟨by first | exact hlt | (unfold inI; omega) | exact yfP (by omega) | exact yu hlt hlen, ?_⟩)
   refine ⟨i + 1, hlt, by omega, ?_⟩
   simp only [ybz] at hs
   apply yj <;> simp [AV.yc, AV.yA, Obj.yc, Obj.leO, hs, hself] <;> omega
  ·have : i = xs.length := by omega
   subst this
   simp -dsimp -implicitDefEqProofs
   intro _
   rw [ydX (Nat.le_refl _), ycC (Nat.le_refl _), List.take_of_length_le (by rw [yU]; exact Nat.le_refl _)]
   exact ⟨rfl, rfl⟩
@[simp] def CallT.yO (e : CallT) : List C := [.b e.Train.Up, .ot 1 (e.Train.Rows.map yS), .i e.Since, .i e.Booked]
theorem CallT.yaa (e : CallT) : ybV e.yO = some e.enc := by simp [CallT.yO, ybV, yc6 yef]
theorem CallT.yas (e : CallT) : ∀ c ∈ e.yO, c.closed := by
 simp only [CallT.yO, List.mem_cons, List.not_mem_nil, or_false, forall_eq_or_imp, forall_eq]
 exact ⟨by simp [C.closed], ybD yir _ _, by simp [C.closed], by simp [C.closed]⟩
theorem yCF (e : CallT) (hl : CallT.small e) : ycE Tryz.prog yfF [.agg (e.enc.map .c)] (.agg (e.yO.map .c)) := by
 refine ybb ynV (by simp) fun hwf => ?_
 simp -dsimp -implicitDefEqProofs [yiX]
 refine yal (yna e.Train hl) (by simp) (yhi (Train.yas _)) (by simp [yau]) ?_
 simp -dsimp -implicitDefEqProofs [yK]
theorem yBg (xs : List CallT) (hl : yd0 xs) : ycE Tryz.prog yeH [.c (.sl 4 (xs.map CallT.enc))] (.c (.ot 4 (xs.map CallT.yO))) := by
 refine ybb ymc (by simp) fun hwf => ?_
 simp -dsimp -implicitDefEqProofs [yhI]
 intro hlen
 have hl1 := hl.1
 refine ⟨by omega, ?_⟩
 refine yh (ι := Nat) (fun k => k ≤ xs.length) (fun k => yP [(0, .c (.sl 4 (xs.map CallT.enc))), (3, .own 7 4 xs.length), (4, .c (.i k))] [(7, .tr 4 0 (partly CallT.yO [.b false, .sl 1 [], .i 0, .i 0] xs k))]) (fun k => xs.length - k) 0 (by simp) (by apply yj <;> simp [AV.yc, AV.yA, Obj.yc, yX, Obj.leO]) ?_
 rintro k hk
 rcases Nat.lt_or_ge k xs.length with hlt | hge
 ·obtain ⟨e, he⟩ : ∃ e, xs[k]? = some e := ⟨_, List.getElem?_eq_getElem hlt⟩
  have hs := yae (f := CallT.yO) (z := [.b false, .sl 1 [], .i 0, .i 0]) he
  have hd := yam (f := CallT.yO) (z := [.b false, .sl 1 [], .i 0, .i 0]) (n := 4) rfl hlt
  simp only [CallT.yO] at hs
  simp -dsimp -implicitDefEqProofs [he, yI hlt]
  intro _
  refine yal (yCF e (hl.2 e (List.mem_of_getElem? he))) (by simp) (yhi (CallT.yas _)) (by simp [yau]) ?_
  simp -dsimp -implicitDefEqProofs [yI hlt, yaf hk, yK, hd, hs]
  exact ⟨hlt, yu hlt hlen, k + 1, hlt, by omega, by apply yj <;> simp [AV.yc, AV.yA, Obj.yc, Obj.leO]⟩
 ·simp -dsimp -implicitDefEqProofs [yah hge]
  intro _
  rw [yad hge, yK]
def yar (e : CallT) : Nat := 1 + cnt nB e.Train.Rows + 1 + 1
def ydA (k : Int) (e : CallT) : List C := [.b (decide (k.tmod 3 = 0)), .ot 1 (yaF fB nB (k + 1) e.Train.Rows), .i (k + 1 + (cnt nB e.Train.Rows : Int)), .i (k + 1 + (cnt nB e.Train.Rows : Int) + 1)]
def ykn (k : Int) (e : CallT) : List C := [.b (decide (k.tmod 3 = 0)), .sl 1 (yaF fBs nB (k + 1) e.Train.Rows), .i (k + 1 + (cnt nB e.Train.Rows : Int)), .i (k + 1 + (cnt nB e.Train.Rows : Int) + 1)]
theorem ymb (k : Int) (e : CallT) : ybV (ydA k e) = some (ykn k e) := by simp [ydA, ykn, ybV, C.shr, yaZ yv1]
theorem yqJ (xs : List CallT) (k : Int) (h0 : 0 ≤ k) (h1 : k + cnt yar xs ≤ 8000000000000000000) :
 InF Tryz.prog yc4 (.c (ct 4 (xs.map CallT.yO))) (.c (ct 4 (yaF ydA yar k xs))) [.c (.i k)] (.c (.i (k + cnt yar xs))) := by
 rcases Nat.eq_zero_or_pos xs.length with hx | hx
 ·have : xs = [] := List.length_eq_zero_iff.1 hx
  subst this
  refine ybq yjx (by simp) (by simp) rfl fun hwf => ?_
  simp -dsimp -implicitDefEqProofs [ye7, yaF, cnt]
  refine yh (ι := Unit) (fun _ => True) (fun _ => yP [(0, .c (.sl 4 [])), (1, .c (.i k)), (5, .c (.i 0)), (1000000, .c (.sl 4 []))] []) (fun _ => 0) () trivial (by apply yj <;> simp [AV.yc, AV.yA, Obj.yc]) ?_
  rintro _ _
  simp -dsimp -implicitDefEqProofs
 ·rw [ycp (by simpa using hx), ycp (by rw [yU]; exact hx)]
  refine ybq yjx (by simp) (by simp) rfl fun hwf => ?_
  simp -dsimp -implicitDefEqProofs [ye7]
  refine yh (ι := Nat) (fun i => i ≤ xs.length) (fun i => yP [(0, .own 0 4 xs.length), (1, .c (.i (k + yaY yar xs i))), (5, .c (.i i)), (1000000, .own 0 4 xs.length)] [(0, .tr 4 0 (ycc ydA CallT.yO yar k xs i))]) (fun i => xs.length - i) 0 (by simp) (by apply yj <;> simp [AV.yc, AV.yA, Obj.yc, ycW, yb0, Obj.leO]) ?_
  rintro i hi
  rcases Nat.lt_or_ge i xs.length with hlt | hge
  ·obtain ⟨e, he⟩ : ∃ e, xs[i]? = some e := ⟨_, List.getElem?_eq_getElem hlt⟩
   have hg := ydZ (f := ydA) (g := CallT.yO) (n := yar) (k := k) he
   have hl := yd2 (f := ydA) (g := CallT.yO) (n := yar) (k := k) (xs := xs) (i := i)
   have hs := yd4 (f := ydA) (g := CallT.yO) (n := yar) (k := k) he
   have hc := ybY (n := yar) he
   have hle := ydr (n := yar) (xs := xs) (i := i + 1)
   have hn : yar e = 1 + cnt nB e.Train.Rows + 1 + 1 := rfl
   generalize hM : ycc ydA CallT.yO yar k xs i = M at *
   generalize hK : (k + (yaY yar xs i : Int)) = K at *
   have hlt2 : i < M.length := by omega
   have g1 : M[i] = CallT.yO e := (List.getElem?_eq_some_iff.1 hg).2
   have hself : ∀ a, (M.set i a)[i]? = some a := fun a => List.getElem?_set_self hlt2
   have hgetD : ∀ a, (M.set i a)[i]?.getD [] = a := fun a => by rw [hself]; rfl
   simp only [CallT.yO] at hg g1
   have hk : 0 ≤ K := by omega
   simp -dsimp -implicitDefEqProofs [yI hlt, hg, hl, hlt2, g1, hself, setAt]
   intro hlen
   repeat (refine ⟨by first | exact hlt | (unfold inI; omega) | exact yfP (by omega), ?_⟩)
   refine ybB (k0 := 4) (j := 1) (i := (i : Int)) (r := [.b (decide (K.tmod 3 = 0)), .ot 1 (e.Train.Rows.map yS), .i e.Since, .i e.Booked]) (c := .ot 1 (e.Train.Rows.map yS)) (c' := .ot 1 (yaF fB nB (K + 1) e.Train.Rows)) (ygX e.Train.Rows (K + 1) (by omega) (by omega)) (by simp) rfl rfl rfl (by first | exact hself _ | simpa using hg) rfl ⟨_, by rw [yU]; simp, rfl, rfl, rfl⟩ (by simp [C.sz]) ?_
   simp -dsimp -implicitDefEqProofs [setAt, hself, hlt2, hl]
   repeat (refine ⟨by first | exact hlt | (unfold inI; omega) | exact yfP (by omega) | exact yu hlt hlen, ?_⟩)
   refine ⟨i + 1, hlt, by omega, ?_⟩
   simp only [ydA] at hs
   apply yj <;> simp [AV.yc, AV.yA, Obj.yc, Obj.leO, hs, hself] <;> omega
  ·have : i = xs.length := by omega
   subst this
   simp -dsimp -implicitDefEqProofs
   intro _
   rw [ydX (Nat.le_refl _), ycC (Nat.le_refl _), List.take_of_length_le (by rw [yU]; exact Nat.le_refl _)]
   exact ⟨rfl, rfl⟩
theorem yw1 (xs : List CallT) (k : Int) (h0 : 0 ≤ k) (h1 : k + cnt yar xs ≤ 8000000000000000000) : yF Tryz.prog yc9 [.c (.sl 4 (yaF ykn yar k xs)), .c (.i k)] (.c (.i (k + cnt yar xs))) := by
 refine yt ypZ (by simp) fun hwf => ?_
 simp -dsimp -implicitDefEqProofs [yjQ]
 refine yh (ι := Nat) (fun i => i ≤ xs.length) (fun i => yP [(0, .c (.sl 4 (yaF ykn yar k xs))), (1, .c (.i (k + yaY yar xs i))), (5, .c (.i i))] []) (fun i => xs.length - i) 0 (by simp) (by apply yj <;> simp [AV.yc, AV.yA, Obj.yc, yb0]) ?_
 rintro i hi
 rcases Nat.lt_or_ge i xs.length with hlt | hge
 ·obtain ⟨e, he⟩ : ∃ e, xs[i]? = some e := ⟨_, List.getElem?_eq_getElem hlt⟩
  have hg := yvW (f := ykn) (n := yar) (k := k) he
  have hc := ybY (n := yar) he
  have hle := ydr (n := yar) (xs := xs) (i := i + 1)
  have hn : yar e = 1 + cnt nB e.Train.Rows + 1 + 1 := rfl
  simp only [ykn] at hg
  generalize hK : (k + (yaY yar xs i : Int)) = K at *
  have hk : 0 ≤ K := by omega
  simp -dsimp -implicitDefEqProofs [yU, yI hlt, hg]
  intro hlen
  repeat (refine ⟨by first | exact hlt | (unfold inI; omega) | exact yfP (by omega), ?_⟩)
  refine yg (ywM e.Train.Rows (K + 1) (by omega) (by omega)) (by simp) rfl ?_
  have n1 : (K + 1 + (cnt nB e.Train.Rows : Int) < 0) = False := by simp; omega
  simp -dsimp -implicitDefEqProofs [n1, yU, yI hlt, hg]
  repeat (refine ⟨by first | exact hlt | (unfold inI; omega) | exact yfP (by omega) | exact yu hlt hlen, ?_⟩)
  refine ⟨i + 1, hlt, by omega, ?_⟩
  apply yj <;> simp [AV.yc, AV.yA, Obj.yc] <;> omega
 ·have : i = xs.length := by omega
  subst this
  simp -dsimp -implicitDefEqProofs [yU]
  rw [ycC (Nat.le_refl _)]
  intro _; rfl
@[simp] def Lock.yO (e : Lock) : List C := [.i e.Length, .i e.Width, .i e.SillAbove, .i e.SillBelow, .i e.Base, .i e.Area, .i e.Rate, .i e.Water, .i e.Gate, .ot 2 (e.Inside.map Train.yO)]
theorem Lock.yaa (e : Lock) : ybV e.yO = some e.enc := by simp [Lock.yO, ybV, yc6 Train.yaa]
theorem Lock.yas (e : Lock) : ∀ c ∈ e.yO, c.closed := by
 simp only [Lock.yO, List.mem_cons, List.not_mem_nil, or_false, forall_eq_or_imp, forall_eq]
 exact ⟨by simp [C.closed], by simp [C.closed], by simp [C.closed], by simp [C.closed], by simp [C.closed], by simp [C.closed], by simp [C.closed], by simp [C.closed], by simp [C.closed], ybD Train.yas _ _⟩
set_option maxRecDepth 20000 in
theorem yBZ (e : Lock) (hl : Lock.small e) : ycE Tryz.prog yfM [.agg (e.enc.map .c)] (.agg (e.yO.map .c)) := by
 refine ybb yoh (by simp) fun hwf => ?_
 simp -dsimp -implicitDefEqProofs [yiK]
 refine yal (yrY e.Inside hl) (by simp) (ybD Train.yas _ _) (by simp [yau]) ?_
 simp -dsimp -implicitDefEqProofs [yK]
@[simp] def Work.yO (e : Work) : List C := [.i e.Lock.Length, .i e.Lock.Width, .i e.Lock.SillAbove, .i e.Lock.SillBelow, .i e.Lock.Base, .i e.Lock.Area, .i e.Lock.Rate, .i e.Lock.Water, .i e.Lock.Gate, .ot 2 (e.Lock.Inside.map Train.yO), .i e.Weir.Gates, .i e.Weir.Open, .i e.Weir.Step, .i e.Weir.Crest, .i e.Weir.Width, .i e.Rule.Low, .i e.Rule.High, .i e.Rule.Flood, .ow 2 (e.Pauses.map Pause.enc), .b e.Turn.Up, .i e.Turn.Count, .ot 4 (e.Calls.map CallT.yO)]
theorem Work.yaa (e : Work) : ybV e.yO = some e.enc := by simp [Work.yO, ybV, yc6 Train.yaa, yc6 CallT.yaa]
theorem Work.yas (e : Work) : ∀ c ∈ e.yO, c.closed := by
 simp only [Work.yO, List.mem_cons, List.not_mem_nil, or_false, forall_eq_or_imp, forall_eq]
 exact ⟨by simp [C.closed], by simp [C.closed], by simp [C.closed], by simp [C.closed], by simp [C.closed], by simp [C.closed], by simp [C.closed], by simp [C.closed], by simp [C.closed], ybD Train.yas _ _, by simp [C.closed], by simp [C.closed], by simp [C.closed], by simp [C.closed], by simp [C.closed], by simp [C.closed], by simp [C.closed], by simp [C.closed], by simp [C.closed], by simp [C.closed], by simp [C.closed], ybD CallT.yas _ _⟩
set_option maxRecDepth 20000 in
theorem yDb (e : Work) (hl : Work.small e) : ycE Tryz.prog yfK [.agg (e.enc.map .c)] (.agg (e.yO.map .c)) := by
 refine ybb ynz (by simp) fun hwf => ?_
 simp -dsimp -implicitDefEqProofs [yiU]
 refine yal (yBZ e.Lock hl.1) (by simp) (yhi (Lock.yas _)) (by simp [yau]) ?_
 simp -dsimp -implicitDefEqProofs [yK]
 refine yg (yxf e.Weir) (by simp) rfl ?_
 simp -dsimp -implicitDefEqProofs
 refine yg (yxR e.Rule) (by simp) rfl ?_
 simp -dsimp -implicitDefEqProofs
 refine yal (yyI e.Pauses hl.2.1) (by simp) (by simp [AV.closed, AV.ybW, C.closed]) (by simp [yau]) ?_
 simp -dsimp -implicitDefEqProofs [yK]
 refine yg (yxD e.Turn) (by simp) rfl ?_
 simp -dsimp -implicitDefEqProofs
 refine yal (yBg e.Calls hl.2.2) (by simp) (ybD CallT.yas _ _) (by simp [yau]) ?_
 simp -dsimp -implicitDefEqProofs [yK]
set_option maxRecDepth 20000 in
theorem yAq (xs : List Work) (hl : yh6 xs) : ycE Tryz.prog yel [.c (.sl 22 (xs.map Work.enc))] (.c (.ot 22 (xs.map Work.yO))) := by
 refine ybb ymx (by simp) fun hwf => ?_
 simp -dsimp -implicitDefEqProofs [yhz]
 intro hlen
 have hl1 := hl.1
 refine ⟨by omega, ?_⟩
 refine yh (ι := Nat) (fun k => k ≤ xs.length) (fun k => yP [(0, .c (.sl 22 (xs.map Work.enc))), (3, .own 7 22 xs.length), (4, .c (.i k))] [(7, .tr 22 0 (partly Work.yO [.i 0, .i 0, .i 0, .i 0, .i 0, .i 0, .i 0, .i 0, .i 0, .sl 2 [], .i 0, .i 0, .i 0, .i 0, .i 0, .i 0, .i 0, .i 0, .sl 2 [], .b false, .i 0, .sl 4 []] xs k))]) (fun k => xs.length - k) 0 (by simp) (by apply yj <;> simp [AV.yc, AV.yA, Obj.yc, yX, Obj.leO]) ?_
 rintro k hk
 rcases Nat.lt_or_ge k xs.length with hlt | hge
 ·obtain ⟨e, he⟩ : ∃ e, xs[k]? = some e := ⟨_, List.getElem?_eq_getElem hlt⟩
  have hs := yae (f := Work.yO) (z := [.i 0, .i 0, .i 0, .i 0, .i 0, .i 0, .i 0, .i 0, .i 0, .sl 2 [], .i 0, .i 0, .i 0, .i 0, .i 0, .i 0, .i 0, .i 0, .sl 2 [], .b false, .i 0, .sl 4 []]) he
  have hd := yam (f := Work.yO) (z := [.i 0, .i 0, .i 0, .i 0, .i 0, .i 0, .i 0, .i 0, .i 0, .sl 2 [], .i 0, .i 0, .i 0, .i 0, .i 0, .i 0, .i 0, .i 0, .sl 2 [], .b false, .i 0, .sl 4 []]) (n := 22) rfl hlt
  simp only [Work.yO] at hs
  simp -dsimp -implicitDefEqProofs [he, yI hlt]
  intro _
  refine yal (yDb e (hl.2 e (List.mem_of_getElem? he))) (by simp) (yhi (Work.yas _)) (by simp [yau]) ?_
  simp -dsimp -implicitDefEqProofs [yI hlt, yaf hk, yK, hd, hs]
  exact ⟨hlt, yu hlt hlen, k + 1, hlt, by omega, by apply yj <;> simp [AV.yc, AV.yA, Obj.yc, Obj.leO]⟩
 ·simp -dsimp -implicitDefEqProofs [yah hge]
  intro _
  rw [yad hge, yK]
def ybs (e : Work) : Nat := 1 + 1 + 1 + 1 + 1 + 1 + 1 + 1 + 1 + cnt yG e.Lock.Inside + 1 + 1 + 1 + 1 + 1 + 1 + 1 + 1 + 2 * e.Pauses.length + 1 + 1 + cnt yar e.Calls
def yeF (k : Int) (e : Work) : List C := [.i k, .i (k + 1), .i (k + 1 + 1), .i (k + 1 + 1 + 1), .i (k + 1 + 1 + 1 + 1), .i (k + 1 + 1 + 1 + 1 + 1), .i (k + 1 + 1 + 1 + 1 + 1 + 1), .i (k + 1 + 1 + 1 + 1 + 1 + 1 + 1), .i (k + 1 + 1 + 1 + 1 + 1 + 1 + 1 + 1), .ot 2 (yaF ybz yG (k + 1 + 1 + 1 + 1 + 1 + 1 + 1 + 1 + 1) e.Lock.Inside), .i (k + 1 + 1 + 1 + 1 + 1 + 1 + 1 + 1 + 1 + (cnt yG e.Lock.Inside : Int)), .i (k + 1 + 1 + 1 + 1 + 1 + 1 + 1 + 1 + 1 + (cnt yG e.Lock.Inside : Int) + 1), .i (k + 1 + 1 + 1 + 1 + 1 + 1 + 1 + 1 + 1 + (cnt yG e.Lock.Inside : Int) + 1 + 1), .i (k + 1 + 1 + 1 + 1 + 1 + 1 + 1 + 1 + 1 + (cnt yG e.Lock.Inside : Int) + 1 + 1 + 1), .i (k + 1 + 1 + 1 + 1 + 1 + 1 + 1 + 1 + 1 + (cnt yG e.Lock.Inside : Int) + 1 + 1 + 1 + 1), .i (k + 1 + 1 + 1 + 1 + 1 + 1 + 1 + 1 + 1 + (cnt yG e.Lock.Inside : Int) + 1 + 1 + 1 + 1 + 1), .i (k + 1 + 1 + 1 + 1 + 1 + 1 + 1 + 1 + 1 + (cnt yG e.Lock.Inside : Int) + 1 + 1 + 1 + 1 + 1 + 1), .i (k + 1 + 1 + 1 + 1 + 1 + 1 + 1 + 1 + 1 + (cnt yG e.Lock.Inside : Int) + 1 + 1 + 1 + 1 + 1 + 1 + 1), .ow 2 (marked ycw 2 [] (k + 1 + 1 + 1 + 1 + 1 + 1 + 1 + 1 + 1 + (cnt yG e.Lock.Inside : Int) + 1 + 1 + 1 + 1 + 1 + 1 + 1 + 1) e.Pauses.length), .b (decide ((k + 1 + 1 + 1 + 1 + 1 + 1 + 1 + 1 + 1 + (cnt yG e.Lock.Inside : Int) + 1 + 1 + 1 + 1 + 1 + 1 + 1 + 1 + 2 * (e.Pauses.length : Int)).tmod 3 = 0)), .i (k + 1 + 1 + 1 + 1 + 1 + 1 + 1 + 1 + 1 + (cnt yG e.Lock.Inside : Int) + 1 + 1 + 1 + 1 + 1 + 1 + 1 + 1 + 2 * (e.Pauses.length : Int) + 1), .ot 4 (yaF ydA yar (k + 1 + 1 + 1 + 1 + 1 + 1 + 1 + 1 + 1 + (cnt yG e.Lock.Inside : Int) + 1 + 1 + 1 + 1 + 1 + 1 + 1 + 1 + 2 * (e.Pauses.length : Int) + 1 + 1) e.Calls)]
def yzU (k : Int) (e : Work) : List C := [.i k, .i (k + 1), .i (k + 1 + 1), .i (k + 1 + 1 + 1), .i (k + 1 + 1 + 1 + 1), .i (k + 1 + 1 + 1 + 1 + 1), .i (k + 1 + 1 + 1 + 1 + 1 + 1), .i (k + 1 + 1 + 1 + 1 + 1 + 1 + 1), .i (k + 1 + 1 + 1 + 1 + 1 + 1 + 1 + 1), .sl 2 (yaF yrG yG (k + 1 + 1 + 1 + 1 + 1 + 1 + 1 + 1 + 1) e.Lock.Inside), .i (k + 1 + 1 + 1 + 1 + 1 + 1 + 1 + 1 + 1 + (cnt yG e.Lock.Inside : Int)), .i (k + 1 + 1 + 1 + 1 + 1 + 1 + 1 + 1 + 1 + (cnt yG e.Lock.Inside : Int) + 1), .i (k + 1 + 1 + 1 + 1 + 1 + 1 + 1 + 1 + 1 + (cnt yG e.Lock.Inside : Int) + 1 + 1), .i (k + 1 + 1 + 1 + 1 + 1 + 1 + 1 + 1 + 1 + (cnt yG e.Lock.Inside : Int) + 1 + 1 + 1), .i (k + 1 + 1 + 1 + 1 + 1 + 1 + 1 + 1 + 1 + (cnt yG e.Lock.Inside : Int) + 1 + 1 + 1 + 1), .i (k + 1 + 1 + 1 + 1 + 1 + 1 + 1 + 1 + 1 + (cnt yG e.Lock.Inside : Int) + 1 + 1 + 1 + 1 + 1), .i (k + 1 + 1 + 1 + 1 + 1 + 1 + 1 + 1 + 1 + (cnt yG e.Lock.Inside : Int) + 1 + 1 + 1 + 1 + 1 + 1), .i (k + 1 + 1 + 1 + 1 + 1 + 1 + 1 + 1 + 1 + (cnt yG e.Lock.Inside : Int) + 1 + 1 + 1 + 1 + 1 + 1 + 1), .sl 2 (marked ycw 2 [] (k + 1 + 1 + 1 + 1 + 1 + 1 + 1 + 1 + 1 + (cnt yG e.Lock.Inside : Int) + 1 + 1 + 1 + 1 + 1 + 1 + 1 + 1) e.Pauses.length), .b (decide ((k + 1 + 1 + 1 + 1 + 1 + 1 + 1 + 1 + 1 + (cnt yG e.Lock.Inside : Int) + 1 + 1 + 1 + 1 + 1 + 1 + 1 + 1 + 2 * (e.Pauses.length : Int)).tmod 3 = 0)), .i (k + 1 + 1 + 1 + 1 + 1 + 1 + 1 + 1 + 1 + (cnt yG e.Lock.Inside : Int) + 1 + 1 + 1 + 1 + 1 + 1 + 1 + 1 + 2 * (e.Pauses.length : Int) + 1), .sl 4 (yaF ykn yar (k + 1 + 1 + 1 + 1 + 1 + 1 + 1 + 1 + 1 + (cnt yG e.Lock.Inside : Int) + 1 + 1 + 1 + 1 + 1 + 1 + 1 + 1 + 2 * (e.Pauses.length : Int) + 1 + 1) e.Calls)]
theorem yqz (k : Int) (e : Work) : ybV (yeF k e) = some (yzU k e) := by simp [yeF, yzU, ybV, C.shr, yaZ ymb, yaZ ykH]
set_option maxRecDepth 20000 in
theorem yx5 (xs : List Work) (k : Int) (h0 : 0 ≤ k) (h1 : k + cnt ybs xs ≤ 8000000000000000000) :
 InF Tryz.prog yfx (.c (ct 22 (xs.map Work.yO))) (.c (ct 22 (yaF yeF ybs k xs))) [.c (.i k)] (.c (.i (k + cnt ybs xs))) := by
 rcases Nat.eq_zero_or_pos xs.length with hx | hx
 ·have : xs = [] := List.length_eq_zero_iff.1 hx
  subst this
  refine ybq yjB (by simp) (by simp) rfl fun hwf => ?_
  simp -dsimp -implicitDefEqProofs [yfz, yaF, cnt]
  refine yh (ι := Unit) (fun _ => True) (fun _ => yP [(0, .c (.sl 22 [])), (1, .c (.i k)), (5, .c (.i 0)), (1000000, .c (.sl 22 []))] []) (fun _ => 0) () trivial (by apply yj <;> simp [AV.yc, AV.yA, Obj.yc]) ?_
  rintro _ _
  simp -dsimp -implicitDefEqProofs
 ·rw [ycp (by simpa using hx), ycp (by rw [yU]; exact hx)]
  refine ybq yjB (by simp) (by simp) rfl fun hwf => ?_
  simp -dsimp -implicitDefEqProofs [yfz]
  refine yh (ι := Nat) (fun i => i ≤ xs.length) (fun i => yP [(0, .own 0 22 xs.length), (1, .c (.i (k + yaY ybs xs i))), (5, .c (.i i)), (1000000, .own 0 22 xs.length)] [(0, .tr 22 0 (ycc yeF Work.yO ybs k xs i))]) (fun i => xs.length - i) 0 (by simp) (by apply yj <;> simp [AV.yc, AV.yA, Obj.yc, ycW, yb0, Obj.leO]) ?_
  rintro i hi
  rcases Nat.lt_or_ge i xs.length with hlt | hge
  ·obtain ⟨e, he⟩ : ∃ e, xs[i]? = some e := ⟨_, List.getElem?_eq_getElem hlt⟩
   have hg := ydZ (f := yeF) (g := Work.yO) (n := ybs) (k := k) he
   have hl := yd2 (f := yeF) (g := Work.yO) (n := ybs) (k := k) (xs := xs) (i := i)
   have hs := yd4 (f := yeF) (g := Work.yO) (n := ybs) (k := k) he
   have hc := ybY (n := ybs) he
   have hle := ydr (n := ybs) (xs := xs) (i := i + 1)
   have hn : ybs e = 1 + 1 + 1 + 1 + 1 + 1 + 1 + 1 + 1 + cnt yG e.Lock.Inside + 1 + 1 + 1 + 1 + 1 + 1 + 1 + 1 + 2 * e.Pauses.length + 1 + 1 + cnt yar e.Calls := rfl
   generalize hM : ycc yeF Work.yO ybs k xs i = M at *
   generalize hK : (k + (yaY ybs xs i : Int)) = K at *
   have hlt2 : i < M.length := by omega
   have g1 : M[i] = Work.yO e := (List.getElem?_eq_some_iff.1 hg).2
   have hself : ∀ a, (M.set i a)[i]? = some a := fun a => List.getElem?_set_self hlt2
   have hgetD : ∀ a, (M.set i a)[i]?.getD [] = a := fun a => by rw [hself]; rfl
   simp only [Work.yO] at hg g1
   have hk : 0 ≤ K := by omega
   simp -dsimp -implicitDefEqProofs [yI hlt, hg, hl, hlt2, g1, hself, setAt]
   intro hlen
   repeat (refine ⟨by first | exact hlt | (unfold inI; omega) | exact yfP (by omega), ?_⟩)
   refine ybB (k0 := 22) (j := 9) (i := (i : Int)) (r := [.i K, .i (K + 1), .i (K + 1 + 1), .i (K + 1 + 1 + 1), .i (K + 1 + 1 + 1 + 1), .i (K + 1 + 1 + 1 + 1 + 1), .i (K + 1 + 1 + 1 + 1 + 1 + 1), .i (K + 1 + 1 + 1 + 1 + 1 + 1 + 1), .i (K + 1 + 1 + 1 + 1 + 1 + 1 + 1 + 1), .ot 2 (e.Lock.Inside.map Train.yO), .i e.Weir.Gates, .i e.Weir.Open, .i e.Weir.Step, .i e.Weir.Crest, .i e.Weir.Width, .i e.Rule.Low, .i e.Rule.High, .i e.Rule.Flood, .ow 2 (e.Pauses.map Pause.enc), .b e.Turn.Up, .i e.Turn.Count, .ot 4 (e.Calls.map CallT.yO)]) (c := .ot 2 (e.Lock.Inside.map Train.yO)) (c' := .ot 2 (yaF ybz yG (K + 1 + 1 + 1 + 1 + 1 + 1 + 1 + 1 + 1) e.Lock.Inside)) (ypA e.Lock.Inside (K + 1 + 1 + 1 + 1 + 1 + 1 + 1 + 1 + 1) (by omega) (by omega)) (by simp) rfl rfl rfl (by first | exact hself _ | simpa using hg) rfl ⟨_, by rw [yU]; simp, rfl, rfl, rfl⟩ (by simp [C.sz]) ?_
   simp -dsimp -implicitDefEqProofs [setAt, hself, hlt2, hl]
   repeat (refine ⟨by first | exact hlt | (unfold inI; omega) | exact yfP (by omega), ?_⟩)
   refine ybB (k0 := 22) (j := 18) (i := (i : Int)) (r := [.i K, .i (K + 1), .i (K + 1 + 1), .i (K + 1 + 1 + 1), .i (K + 1 + 1 + 1 + 1), .i (K + 1 + 1 + 1 + 1 + 1), .i (K + 1 + 1 + 1 + 1 + 1 + 1), .i (K + 1 + 1 + 1 + 1 + 1 + 1 + 1), .i (K + 1 + 1 + 1 + 1 + 1 + 1 + 1 + 1), .ot 2 (yaF ybz yG (K + 1 + 1 + 1 + 1 + 1 + 1 + 1 + 1 + 1) e.Lock.Inside), .i (K + 1 + 1 + 1 + 1 + 1 + 1 + 1 + 1 + 1 + (cnt yG e.Lock.Inside : Int)), .i (K + 1 + 1 + 1 + 1 + 1 + 1 + 1 + 1 + 1 + (cnt yG e.Lock.Inside : Int) + 1), .i (K + 1 + 1 + 1 + 1 + 1 + 1 + 1 + 1 + 1 + (cnt yG e.Lock.Inside : Int) + 1 + 1), .i (K + 1 + 1 + 1 + 1 + 1 + 1 + 1 + 1 + 1 + (cnt yG e.Lock.Inside : Int) + 1 + 1 + 1), .i (K + 1 + 1 + 1 + 1 + 1 + 1 + 1 + 1 + 1 + (cnt yG e.Lock.Inside : Int) + 1 + 1 + 1 + 1), .i (K + 1 + 1 + 1 + 1 + 1 + 1 + 1 + 1 + 1 + (cnt yG e.Lock.Inside : Int) + 1 + 1 + 1 + 1 + 1), .i (K + 1 + 1 + 1 + 1 + 1 + 1 + 1 + 1 + 1 + (cnt yG e.Lock.Inside : Int) + 1 + 1 + 1 + 1 + 1 + 1), .i (K + 1 + 1 + 1 + 1 + 1 + 1 + 1 + 1 + 1 + (cnt yG e.Lock.Inside : Int) + 1 + 1 + 1 + 1 + 1 + 1 + 1), .ow 2 (e.Pauses.map Pause.enc), .b e.Turn.Up, .i e.Turn.Count, .ot 4 (e.Calls.map CallT.yO)]) (c := .ow 2 (e.Pauses.map Pause.enc)) (c' := .ow 2 (marked ycw 2 [] (K + 1 + 1 + 1 + 1 + 1 + 1 + 1 + 1 + 1 + (cnt yG e.Lock.Inside : Int) + 1 + 1 + 1 + 1 + 1 + 1 + 1 + 1) e.Pauses.length)) (ywK e.Pauses (K + 1 + 1 + 1 + 1 + 1 + 1 + 1 + 1 + 1 + (cnt yG e.Lock.Inside : Int) + 1 + 1 + 1 + 1 + 1 + 1 + 1 + 1) (by omega) (by omega)) (by simp) rfl rfl rfl (by first | exact hself _ | simpa using hg) rfl ⟨_, by rw [yZ]; simp, rfl, rfl, rfl⟩ (by simp [C.sz]) ?_
   simp -dsimp -implicitDefEqProofs [setAt, hself, hlt2, hl]
   repeat (refine ⟨by first | exact hlt | (unfold inI; omega) | exact yfP (by omega), ?_⟩)
   refine ybB (k0 := 22) (j := 21) (i := (i : Int)) (r := [.i K, .i (K + 1), .i (K + 1 + 1), .i (K + 1 + 1 + 1), .i (K + 1 + 1 + 1 + 1), .i (K + 1 + 1 + 1 + 1 + 1), .i (K + 1 + 1 + 1 + 1 + 1 + 1), .i (K + 1 + 1 + 1 + 1 + 1 + 1 + 1), .i (K + 1 + 1 + 1 + 1 + 1 + 1 + 1 + 1), .ot 2 (yaF ybz yG (K + 1 + 1 + 1 + 1 + 1 + 1 + 1 + 1 + 1) e.Lock.Inside), .i (K + 1 + 1 + 1 + 1 + 1 + 1 + 1 + 1 + 1 + (cnt yG e.Lock.Inside : Int)), .i (K + 1 + 1 + 1 + 1 + 1 + 1 + 1 + 1 + 1 + (cnt yG e.Lock.Inside : Int) + 1), .i (K + 1 + 1 + 1 + 1 + 1 + 1 + 1 + 1 + 1 + (cnt yG e.Lock.Inside : Int) + 1 + 1), .i (K + 1 + 1 + 1 + 1 + 1 + 1 + 1 + 1 + 1 + (cnt yG e.Lock.Inside : Int) + 1 + 1 + 1), .i (K + 1 + 1 + 1 + 1 + 1 + 1 + 1 + 1 + 1 + (cnt yG e.Lock.Inside : Int) + 1 + 1 + 1 + 1), .i (K + 1 + 1 + 1 + 1 + 1 + 1 + 1 + 1 + 1 + (cnt yG e.Lock.Inside : Int) + 1 + 1 + 1 + 1 + 1), .i (K + 1 + 1 + 1 + 1 + 1 + 1 + 1 + 1 + 1 + (cnt yG e.Lock.Inside : Int) + 1 + 1 + 1 + 1 + 1 + 1), .i (K + 1 + 1 + 1 + 1 + 1 + 1 + 1 + 1 + 1 + (cnt yG e.Lock.Inside : Int) + 1 + 1 + 1 + 1 + 1 + 1 + 1), .ow 2 (marked ycw 2 [] (K + 1 + 1 + 1 + 1 + 1 + 1 + 1 + 1 + 1 + (cnt yG e.Lock.Inside : Int) + 1 + 1 + 1 + 1 + 1 + 1 + 1 + 1) e.Pauses.length), .b (decide ((K + 1 + 1 + 1 + 1 + 1 + 1 + 1 + 1 + 1 + (cnt yG e.Lock.Inside : Int) + 1 + 1 + 1 + 1 + 1 + 1 + 1 + 1 + 2 * (e.Pauses.length : Int)).tmod 3 = 0)), .i (K + 1 + 1 + 1 + 1 + 1 + 1 + 1 + 1 + 1 + (cnt yG e.Lock.Inside : Int) + 1 + 1 + 1 + 1 + 1 + 1 + 1 + 1 + 2 * (e.Pauses.length : Int) + 1), .ot 4 (e.Calls.map CallT.yO)]) (c := .ot 4 (e.Calls.map CallT.yO)) (c' := .ot 4 (yaF ydA yar (K + 1 + 1 + 1 + 1 + 1 + 1 + 1 + 1 + 1 + (cnt yG e.Lock.Inside : Int) + 1 + 1 + 1 + 1 + 1 + 1 + 1 + 1 + 2 * (e.Pauses.length : Int) + 1 + 1) e.Calls)) (yqJ e.Calls (K + 1 + 1 + 1 + 1 + 1 + 1 + 1 + 1 + 1 + (cnt yG e.Lock.Inside : Int) + 1 + 1 + 1 + 1 + 1 + 1 + 1 + 1 + 2 * (e.Pauses.length : Int) + 1 + 1) (by omega) (by omega)) (by simp) rfl rfl rfl (by first | exact hself _ | simpa using hg) rfl ⟨_, by rw [yU]; simp, rfl, rfl, rfl⟩ (by simp [C.sz]) ?_
   simp -dsimp -implicitDefEqProofs [setAt, hself, hlt2, hl]
   repeat (refine ⟨by first | exact hlt | (unfold inI; omega) | exact yfP (by omega) | exact yu hlt hlen, ?_⟩)
   refine ⟨i + 1, hlt, by omega, ?_⟩
   simp only [yeF] at hs
   apply yj <;> simp [AV.yc, AV.yA, Obj.yc, Obj.leO, hs, hself] <;> omega
  ·have : i = xs.length := by omega
   subst this
   simp -dsimp -implicitDefEqProofs
   intro _
   rw [ydX (Nat.le_refl _), ycC (Nat.le_refl _), List.take_of_length_le (by rw [yU]; exact Nat.le_refl _)]
   exact ⟨rfl, rfl⟩
def yaE (xs : List Mover) : List C := [.ot 3 (xs.map Mover.yO)]
theorem ycB (xs : List Mover) : ybV (yaE xs) = some (yav xs) := by simp [yaE, ybV, yc6 Mover.yaa]
theorem ypo (xs : List Mover) : ∀ c ∈ yaE xs, c.closed := by
 intro c hc
 simp only [yaE, List.mem_singleton] at hc
 subst hc
 exact ybD Mover.yas _ _
def fMs (k : Int) (e : Mover) : List C := [.b (decide (k.tmod 3 = 0)), .sl 1 (yaF fBs nB (k + 1) e.Train.Rows), .i (k + 1 + (cnt nB e.Train.Rows : Int))]
theorem yFX (k : Int) (e : Mover) : ybV (fM k e) = some (fMs k e) := by simp [fM, fMs, ybV, C.shr, yaZ yv1]
theorem yxp (xs : List (List Mover)) (hl : yfH xs) : ycE Tryz.prog yda [.c (.sl 1 (xs.map yav))] (.c (.ot 1 (xs.map yaE))) := by
 refine ybb yjh (by simp) fun hwf => ?_
 simp -dsimp -implicitDefEqProofs [yfj]
 intro hlen
 have hl1 := hl.1
 refine ⟨by omega, ?_⟩
 refine yh (ι := Nat) (fun k => k ≤ xs.length) (fun k => yP [(0, .c (.sl 1 (xs.map yav))), (3, .own 7 1 xs.length), (4, .c (.i k))] [(7, .tr 1 0 (partly yaE [.sl 3 []] xs k))]) (fun k => xs.length - k) 0 (by simp) (by apply yj <;> simp [AV.yc, AV.yA, Obj.yc, yX, Obj.leO]) ?_
 rintro k hk
 rcases Nat.lt_or_ge k xs.length with hlt | hge
 ·obtain ⟨e, he⟩ : ∃ e, xs[k]? = some e := ⟨_, List.getElem?_eq_getElem hlt⟩
  have hs := yae (f := yaE) (z := [.sl 3 []]) he
  have hd : ((partly yaE [.sl 3 []] xs k)[k]?.getD []).set 0 (.ot 3 (e.map Mover.yO)) = yaE e := by
   have := yfk (f := yaE) (z := [.sl 3 []]) (n := 1) rfl (fun _ => rfl) hlt
   obtain ⟨x, hx⟩ := List.length_eq_one_iff.1 this
   rw [hx]; rfl
  simp -dsimp -implicitDefEqProofs [he, yI hlt]
  intro _
  refine yal (yzv e (hl.2 e (List.mem_of_getElem? he))) (by simp) (ybD Mover.yas _ _) (by simp [yau]) ?_
  simp -dsimp -implicitDefEqProofs [yI hlt, yaf hk, yK, setAt, hd, hs]
  exact ⟨hlt, yu hlt hlen, k + 1, hlt, by omega, by apply yj <;> simp [AV.yc, AV.yA, Obj.yc, Obj.leO]⟩
 ·simp -dsimp -implicitDefEqProofs [yah hge]
  intro _
  rw [yad hge, yK]
def yaO (r : List Mover) : Nat := cnt nM r
def ycf (k : Int) (r : List Mover) : List C := [.ot 3 (yaF fM nM k r)]
def yuQ (k : Int) (r : List Mover) : List C := [.sl 3 (yaF fMs nM k r)]
theorem ynR (k : Int) (e : List Mover) : ybV (ycf k e) = some (yuQ k e) := by simp [ycf, yuQ, ybV, C.shr, yaZ yFX]
theorem yt0 (xs : List (List Mover)) (k : Int) (h0 : 0 ≤ k) (h1 : k + cnt yaO xs ≤ 8000000000000000000) :
 InF Tryz.prog ydT (.c (ct 1 (xs.map yaE))) (.c (ct 1 (yaF ycf yaO k xs))) [.c (.i k)] (.c (.i (k + cnt yaO xs))) := by
 rcases Nat.eq_zero_or_pos xs.length with hx | hx
 ·have : xs = [] := List.length_eq_zero_iff.1 hx
  subst this
  refine ybq yhK (by simp) (by simp) rfl fun hwf => ?_
  simp -dsimp -implicitDefEqProofs [ydQ, yaF, cnt]
  refine yh (ι := Unit) (fun _ => True) (fun _ => yP [(0, .c (.sl 1 [])), (1, .c (.i k)), (5, .c (.i 0)), (1000000, .c (.sl 1 []))] []) (fun _ => 0) () trivial (by apply yj <;> simp [AV.yc, AV.yA, Obj.yc]) ?_
  rintro _ _
  simp -dsimp -implicitDefEqProofs
 ·rw [ycp (by simpa using hx), ycp (by rw [yU]; exact hx)]
  refine ybq yhK (by simp) (by simp) rfl fun hwf => ?_
  simp -dsimp -implicitDefEqProofs [ydQ]
  refine yh (ι := Nat) (fun i => i ≤ xs.length) (fun i => yP [(0, .own 0 1 xs.length), (1, .c (.i (k + yaY yaO xs i))), (5, .c (.i i)), (1000000, .own 0 1 xs.length)] [(0, .tr 1 0 (ycc ycf yaE yaO k xs i))]) (fun i => xs.length - i) 0 (by simp) (by apply yj <;> simp [AV.yc, AV.yA, Obj.yc, ycW, yb0, Obj.leO]) ?_
  rintro i hi
  rcases Nat.lt_or_ge i xs.length with hlt | hge
  ·obtain ⟨e, he⟩ : ∃ e, xs[i]? = some e := ⟨_, List.getElem?_eq_getElem hlt⟩
   have hg := ydZ (f := ycf) (g := yaE) (n := yaO) (k := k) he
   have hl := yd2 (f := ycf) (g := yaE) (n := yaO) (k := k) (xs := xs) (i := i)
   have hs := yd4 (f := ycf) (g := yaE) (n := yaO) (k := k) he
   have hc := ybY (n := yaO) he
   have hle := ydr (n := yaO) (xs := xs) (i := i + 1)
   have hn : yaO e = cnt nM e := rfl
   generalize hM : ycc ycf yaE yaO k xs i = M at *
   generalize hK : (k + (yaY yaO xs i : Int)) = K at *
   have hlt2 : i < M.length := by omega
   have g1 : M[i] = yaE e := (List.getElem?_eq_some_iff.1 hg).2
   have hself : ∀ a, (M.set i a)[i]? = some a := fun a => List.getElem?_set_self hlt2
   have hgetD : ∀ a, (M.set i a)[i]?.getD [] = a := fun a => by rw [hself]; rfl
   simp only [yaE] at hg g1
   have hk : 0 ≤ K := by omega
   simp -dsimp -implicitDefEqProofs [yI hlt, hg, hl, hlt2, g1, hself, setAt]
   intro hlen
   repeat (refine ⟨by first | exact hlt | (unfold inI; omega) | exact yfP (by omega), ?_⟩)
   refine ybB (k0 := 1) (j := 0) (i := (i : Int)) (r := [.ot 3 (e.map Mover.yO)]) (c := .ot 3 (e.map Mover.yO)) (c' := .ot 3 (yaF fM nM K e)) (ywJ e (K) (by omega) (by omega)) (by simp) rfl rfl rfl (by first | exact hself _ | simpa using hg) rfl ⟨_, by rw [yU]; simp, rfl, rfl, rfl⟩ (by simp [C.sz]) ?_
   simp -dsimp -implicitDefEqProofs [setAt, hself, hlt2, hl]
   repeat (refine ⟨by first | exact hlt | (unfold inI; omega) | exact yfP (by omega) | exact yu hlt hlen, ?_⟩)
   refine ⟨i + 1, hlt, by omega, ?_⟩
   simp only [ycf] at hs
   apply yj <;> simp [AV.yc, AV.yA, Obj.yc, Obj.leO, hs, hself] <;> omega
  ·have : i = xs.length := by omega
   subst this
   simp -dsimp -implicitDefEqProofs
   intro _
   rw [ydX (Nat.le_refl _), ycC (Nat.le_refl _), List.take_of_length_le (by rw [yU]; exact Nat.le_refl _)]
   exact ⟨rfl, rfl⟩
@[simp] def Passing.yO (e : Passing) : List C := [.i e.Time, .i e.Work, .b e.Train.Up, .ot 1 (e.Train.Rows.map yS)]
theorem Passing.yaa (e : Passing) : ybV e.yO = some e.enc := by simp [Passing.yO, ybV, yc6 yef]
theorem Passing.yas (e : Passing) : ∀ c ∈ e.yO, c.closed := by
 simp only [Passing.yO, List.mem_cons, List.not_mem_nil, or_false, forall_eq_or_imp, forall_eq]
 exact ⟨by simp [C.closed], by simp [C.closed], by simp [C.closed], ybD yir _ _⟩
theorem yxX (e : Passing) (hl : Passing.small e) : ycE Tryz.prog yc5 [.agg (e.enc.map .c)] (.agg (e.yO.map .c)) := by
 refine ybb yjm (by simp) fun hwf => ?_
 simp -dsimp -implicitDefEqProofs [yfe]
 refine yal (yna e.Train hl) (by simp) (yhi (Train.yas _)) (by simp [yau]) ?_
 simp -dsimp -implicitDefEqProofs [yK]
theorem ywi (xs : List Passing) (hl : yeK xs) : ycE Tryz.prog ycM [.c (.sl 4 (xs.map Passing.enc))] (.c (.ot 4 (xs.map Passing.yO))) := by
 refine ybb yic (by simp) fun hwf => ?_
 simp -dsimp -implicitDefEqProofs [yex]
 intro hlen
 have hl1 := hl.1
 refine ⟨by omega, ?_⟩
 refine yh (ι := Nat) (fun k => k ≤ xs.length) (fun k => yP [(0, .c (.sl 4 (xs.map Passing.enc))), (3, .own 7 4 xs.length), (4, .c (.i k))] [(7, .tr 4 0 (partly Passing.yO [.i 0, .i 0, .b false, .sl 1 []] xs k))]) (fun k => xs.length - k) 0 (by simp) (by apply yj <;> simp [AV.yc, AV.yA, Obj.yc, yX, Obj.leO]) ?_
 rintro k hk
 rcases Nat.lt_or_ge k xs.length with hlt | hge
 ·obtain ⟨e, he⟩ : ∃ e, xs[k]? = some e := ⟨_, List.getElem?_eq_getElem hlt⟩
  have hs := yae (f := Passing.yO) (z := [.i 0, .i 0, .b false, .sl 1 []]) he
  have hd := yam (f := Passing.yO) (z := [.i 0, .i 0, .b false, .sl 1 []]) (n := 4) rfl hlt
  simp only [Passing.yO] at hs
  simp -dsimp -implicitDefEqProofs [he, yI hlt]
  intro _
  refine yal (yxX e (hl.2 e (List.mem_of_getElem? he))) (by simp) (yhi (Passing.yas _)) (by simp [yau]) ?_
  simp -dsimp -implicitDefEqProofs [yI hlt, yaf hk, yK, hd, hs]
  exact ⟨hlt, yu hlt hlen, k + 1, hlt, by omega, by apply yj <;> simp [AV.yc, AV.yA, Obj.yc, Obj.leO]⟩
 ·simp -dsimp -implicitDefEqProofs [yah hge]
  intro _
  rw [yad hge, yK]
def yaz (e : Passing) : Nat := 1 + 1 + 1 + cnt nB e.Train.Rows
def yby (k : Int) (e : Passing) : List C := [.i k, .i (k + 1), .b (decide ((k + 1 + 1).tmod 3 = 0)), .ot 1 (yaF fB nB (k + 1 + 1 + 1) e.Train.Rows)]
def ysk (k : Int) (e : Passing) : List C := [.i k, .i (k + 1), .b (decide ((k + 1 + 1).tmod 3 = 0)), .sl 1 (yaF fBs nB (k + 1 + 1 + 1) e.Train.Rows)]
theorem ylR (k : Int) (e : Passing) : ybV (yby k e) = some (ysk k e) := by simp [yby, ysk, ybV, C.shr, yaZ yv1]
end Go.Proofs.YtmimbhooaidelaaGreat
