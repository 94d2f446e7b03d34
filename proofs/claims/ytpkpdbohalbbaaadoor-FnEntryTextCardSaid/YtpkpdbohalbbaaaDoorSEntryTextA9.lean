/- What the law FnEntryText stands on: the machine, in short form (names, layout). -/
import Derived.Test.YtpkpdbohalbbaaaDoorSEntryTextA7
import Derived.Test.YtpkpdbohalbbaaaDoorSEntryTextA8
set_option linter.all false
namespace Go.Proofs.YtpkpdbohalbbaaaDoor
open Go.RowKit Go.ChangeShapes Go.WideShapes Go.Deep
theorem yYj {P : Program} {laid : List (String × DataW Unit)} {w : World} (h : (laid.all fun x=>x.2.handleName?.isNone) = true) (hm : laidMetH P laid w) : laidMet P laid w:=by
 have h1 : ∀ x ∈ laid,x.2.handleName?.isNone = true:=fun x hx=>List.all_eq_true.1 h x hx
 unfold laidMetH at hm
 rw [List.filter_eq_nil_iff.2 fun x hx=>by rw [Option.isNone_iff_eq_none.1 (h1 x hx)]; simp] at hm
 exact hm
theorem yYe {C : Checked} {os : Os} {f : FuncId} {fn : Func} {s : ChangeSpec} {conds : List PathCond} {tb : TypeId} {zs : List (Bool × List Sh)} {H : Type} {enc : TypeId × Value → H} {laid : List (String × DataW Unit)} {b : Nat} {Q : Go.Obj → Prop}
 (own : ownKnob C.prog.godebug = none) (started : os.Started) (noInit : C.prog.inits.idxOf? f = none) (hfn : C.prog.funcs[f]? = some fn)
 (witness : ∃ (w : World) (tape : Tape) (i : Input),w.os = os ∧ (w.forCall tape i).Shaped C.prog ∧ i.vars = [] ∧ Input.okWide C.prog (w.forCall tape i) .any w.heap.size f i ∧
  ((s.pre enc C.prog fn conds false (w.forCall tape i).memory i.args ∧ laidMetH C.prog laid (w.forCall tape i).memory) ∧ sizedMet enc C.prog fn (OpenSpec.ofChange s) false (w.forCall tape i).memory i.args) ∧ ({} : Assume).holds C.prog (lone (Frame.enter C.prog f i.args .normal) [] (w.forCall tape i)))
 (hs : IsLaw s fn.params.size) (hp : LawFacts C.prog fn tb zs) (hl : ∀ W,laidMetH C.prog laid W → ∃ o,W.heap[b]? = some o ∧ Q o)
 (h : ∀ o,Q o → ∀ as,ywp zs as → yX6 C.prog f b o as (.c (.b true))) :
 ReturnsInHanded {} C os f .any (fun w args=>(s.pre enc C.prog fn conds false w args ∧ laidMetH C.prog laid w) ∧ sizedMet enc C.prog fn (OpenSpec.ofChange s) false w args) (s.post enc C.prog fn false true false false):=by
 refine returnsInHanded_of_change_and (X:=fun w _=>laidMetH C.prog laid w) (fun w w' _ hh (h : laidMetH C.prog laid w)=>(laidMetH.of_heap hh h : laidMetH C.prog laid w')) own started noInit hfn witness ?_
 intro W base args ds gs before hval hW _ _ hL _
 obtain ⟨o,ho,hq⟩:=hl W hL
 have hA:=hW
 obtain ⟨p,q,hA,_,_,_,_⟩:=hA
 obtain ⟨as,hfit,hl1,hl2,hr⟩:=yyo hp.sh (fun j t v h1 h2=>hval j t v (by simpa using h1) (by simpa using h2)) hA
 refine (h o hq as hfit W (Old W) (fun b h=>h) (yw0 ho) ho args (by simpa using hl1) (fun j x hx=>?_)).mono fun e W' ⟨v,he,hb,hv⟩=>?_
 ·obtain ⟨u,hu,hx'⟩:=hr j x hx
  exact ⟨u,by simpa using hu,hx'⟩
 ·cases hv with
  | b=>exact ⟨_,he,yAc hs hp hW (by simpa using hl2) hb⟩
end Go.Proofs.YtpkpdbohalbbaaaDoor
