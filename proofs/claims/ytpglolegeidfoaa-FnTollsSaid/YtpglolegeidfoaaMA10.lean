/- The machine, part 31: fresh results that are shared. -/
import Derived.Test.YtpglolegeidfoaaMA6
set_option linter.all false
/- The abstract machine, part 31: calls to which slices of the call's own may be lent and whose result, all fresh, is then shared. -/
namespace Go.Proofs.Ytpglolegeidfoaa
open Go.RowKit

section
variable {P : Program} {f : Nat} {avs args : List AV} {res y : AV} {d : Option Nat} {s : St} {K : St → Prop}
/-- A call whose result is fresh, with nothing in it that was there before: slices of the call's own may be lent to it; its result is taken as shared. -/
theorem call_fresh (hp : OwnF P f args res) (ho : outs2 s avs args) (hc : res.closed) (hs : res.shr y) (hK : K (s.put d y)) : callP P f avs d s K := by
  intro g a w blk h hd vs hvs hv
  obtain ⟨h1, h2⟩ := outs2_get ho
  refine (hp w (All g w) (fun b hb => all_lt h hb) vs (by omega) (fun j y hj => ?_)).mono ?_
  · obtain ⟨x, hx, hxy⟩ := h2 j y hj
    obtain ⟨u, hu, hru⟩ := hv j x hx
    exact ⟨u, hu, rv_of2 (out2_ok h (fun _ h => h) hru hxy)⟩
  · rintro e w' ⟨v, F, rfl, hb, hF, hr⟩
    have hv := AOk.lend (G' := fun b => w.heap.size ≤ b ∧ b < w'.heap.size) (AOk.closed (G' := noF) hr hc) hs (fun b hb => hb.elim) hF
    have h' := h.call hb
    refine ⟨v, rfl, _, blk, hK, h'.put hd (rv_wide (fun b hb' => ?_) hv)⟩
    exact ⟨.inr ⟨by have := h.below.size; omega, hb'.2⟩, fun id hid e => by have := (h.new id b hid e).2; omega⟩
end
end Go.Proofs.Ytpglolegeidfoaa

