/- What the law FnEntryText stands on: the machine, in short form (names, layout). -/
import Derived.Test.YtpkpdbohalbbaaaDoorSEntryTextA4
set_option linter.all false
namespace Go.Proofs.YtpkpdbohalbbaaaDoor
open Go.RowKit
def yX6 (P : Program) (f b : Nat) (o : Go.Obj) (args : List AV) (res : AV) : Prop :=
 ∀ (w : World) (G : Nat → Prop),(∀ b,G b → b < w.heap.size) → G b → w.heap[b]? = some o → ∀ vs : Array Value,vs.size = args.length →
  (∀ (j : Nat) (x : AV),args[j]? = some x → ∃ u : Value,vs[j]? = some u ∧ RV w G noO noB u x) →
  Calls P f vs w fun e w'=>∃ v,e = .returned v ∧ Below w.heap.size w w' ∧ RV w' (fun b=>G b ∨ (w.heap.size ≤ b ∧ b < w'.heap.size)) noO noB v res
def yYf (x : AV) (args : List AV) : St:=⟨fun t=>if t = 1000000 then x else (args[t]?).getD .any,fun _=>.none⟩
@[simp] theorem yYq {x : AV} {l : List AV} {t : Nat} : (yYf x l).env t = if t = 1000000 then x else (l[t]?).getD .any:=rfl
@[simp] theorem yYr {x : AV} {l : List AV} {t : Nat} : (yYf x l).ob t = .none:=rfl
@[simp] theorem yYp {x : AV} {l : List AV} {t : Nat} : (yYf x l).objs t = .none:=rfl
theorem yX8 {P : Program} {f N b : Nat} {o : Go.Obj} {c : SC} {rs : List RS} {args : List AV} {res : AV} (hf : Has P f N c rs) (hN : args.length ≤ N)
 (H : ygO args → wpS P N c (yYf (.gl b o) args) (fun e s=>match e with | .exit _=>False | _=>yml s rs res)) : yX6 P f b o args res:=by
 obtain ⟨fn,code,h1,h2,h3,⟨fl,h4⟩,h5⟩:=hf.ok
 intro w G hG hGb hob vs hvs hv
 have hwf : ygO args:=yjB args fun x hx=>by
  obtain ⟨j,hj⟩:=List.getElem?_of_mem hx
  obtain ⟨u,_,hr⟩:=hv j x hj
  exact yzI hr
 refine calls_of_wp h1 h2 ?_
 let g : Ghost:=⟨w,G,noF,N,#[]⟩
 let L0 : Lay:=⟨noB,fun _=>noF⟩
 have hgood : ∀ b,G b → Good g noO L0 w b:=fun b hb=>⟨.inl (.inl hb),fun id hid=>absurd rfl hid⟩
 have hinit : Repr g (yYf (.gl b o) args) { tmps:=vs ++ Array.replicate (fn.ntmps - vs.size) undef,defers:=[] } w L0:=by
  refine ⟨by simp [g]; omega,hf.small,rfl,Off.refl _ _,hG,fun b hb=>hb.elim,fun b hb h=>h.elim,fun t=>?_,fun id=>trivial,fun id b hid=>absurd rfl hid,fun i j b hi=>absurd rfl hi,fun i b hi=>absurd rfl hi⟩
  show RV _ _ _ _ _ (if t = 1000000 then AV.gl b o else (args[t]?).getD .any)
  split
  ·exact ⟨hgood b hGb,hob⟩
  cases ht : args[t]? with
  | none=>trivial
  | some x =>
   obtain ⟨u,hu,hr⟩:=hv t x ht
   have hlt : t < vs.size:=(Array.getElem?_eq_some_iff.1 hu).1
   have hsm:=hf.small
   have : g.val { tmps:=vs ++ Array.replicate (fn.ntmps - vs.size) undef,defers:=[] } t = u:=by
    unfold Ghost.val
    rw [if_pos (by omega),Array.getD_eq_getD_getElem?,Array.getElem?_append_left hlt,hu]; rfl
   rw [this]
   exact yk5 (O:=noO) hgood hr
 refine Code.wp_mono ?_ (yjq (g:=g) rfl h4 (H hwf) hinit)
 intro e a' w' hl
 have fin : ∀ s blk,yml s rs res → Repr g s a' w' blk → a'.defers = [] ∧ ∃ v,(results fn a'.tmps).run P w' = .ok v w' ∧ (∃ v',Ending.returned v = .returned v' ∧ Below w.heap.size w w' ∧ RV w' (fun b=>G b ∨ (w.heap.size ≤ b ∧ b < w'.heap.size)) noO noB v' res):=by
  intro s blk hr h
  obtain ⟨v,e1,e2⟩:=yxa h h5 hr
  exact ⟨h.defers,v,e1,v,rfl,Off.below h.below,yDt e2⟩
 cases e with
 | normal=>obtain ⟨s,blk,hr,h⟩:=hl; exact fin s blk hr h
 | exit id=>obtain ⟨s,blk,hr,h⟩:=hl; exact hr.elim
 | ret=>obtain ⟨s,blk,hr,h⟩:=hl; exact fin s blk hr h
 | goto l=>exact hl.elim
 | panic ch=>exact hl.elim
 | outgrown=>exact hl.elim
section
variable {P : Program} {f b : Nat} {o : Go.Obj} {args avs : List AV} {res : AV} {s : St} {d : Option Nat} {K : St → Prop}
theorem yX7 (hp : yX6 P f b o args res) (hs : s.env 1000000 = .gl b o) (ho : ybD s avs args) (hsc : res.scalar = true) (hK : K (s.put d res)) : yfo P f avs d s K:=by
 intro g a w blk h hd vs hvs hv
 obtain ⟨h1,h2⟩:=yeN ho
 have hb : Good g s.objs blk w b ∧ w.heap[b]? = some o:=by
  have:=h.env 1000000
  rw [hs] at this
  exact this
 refine (hp w (All g w) (fun b hb=>yAI h hb) ?_ hb.2 vs (by omega) (fun j y hj=>?_)).mono ?_
 ·exact hb.1.1
 ·obtain ⟨x,hx,hxy⟩:=h2 j y hj
  obtain ⟨u,hu,hru⟩:=hv j x hx
  exact ⟨u,hu,yje (yly h (fun _ h=>h) hru hxy)⟩
 ·rintro e w' ⟨v,rfl,hb,hr⟩
  exact ⟨v,rfl,_,blk,hK,(h.call hb).put hd (yjx hsc hr)⟩
end
end Go.Proofs.YtpkpdbohalbbaaaDoor
