/- Contracts of functions of this seat: what each answers, as plain Lean. -/
import Derived.Test.YtfmgadchjiplmaaMT1
set_option linter.all false
namespace Go.Proofs.Ytfmgadchjiplmaa
open Go.RowKit

/-! The place of the greatest, of the least. -/
def vAt (l : List Int) (k : Nat) : Int := l[k]?.getD 0
theorem vAt_eq {l : List Int} {k : Nat} {x : Int} (h : l[k]? = some x) : vAt l k = x := by simp [vAt, h]
def amaxTo (l : List Int) : Nat → Nat
  | 0 => 0
  | k + 1 => if vAt l (amaxTo l k) < vAt l k then k else amaxTo l k
def aminTo (l : List Int) : Nat → Nat
  | 0 => 0
  | k + 1 => if vAt l k < vAt l (aminTo l k) then k else aminTo l k
theorem amaxTo_zero {l : List Int} : amaxTo l 0 = 0 := rfl
theorem aminTo_zero {l : List Int} : aminTo l 0 = 0 := rfl
theorem amaxTo_succ {l : List Int} {k : Nat} : amaxTo l (k + 1) = if vAt l (amaxTo l k) < vAt l k then k else amaxTo l k := rfl
theorem aminTo_succ {l : List Int} {k : Nat} : aminTo l (k + 1) = if vAt l k < vAt l (aminTo l k) then k else aminTo l k := rfl
theorem amaxTo_lt {l : List Int} (h : 0 < l.length) : ∀ {k : Nat}, k ≤ l.length → amaxTo l k < l.length
  | 0, _ => h
  | k + 1, hk => by
    rw [amaxTo_succ]
    split
    · omega
    · exact amaxTo_lt h (by omega)
theorem aminTo_lt {l : List Int} (h : 0 < l.length) : ∀ {k : Nat}, k ≤ l.length → aminTo l k < l.length
  | 0, _ => h
  | k + 1, hk => by
    rw [aminTo_succ]
    split
    · omega
    · exact aminTo_lt h (by omega)
theorem amaxTo_ge {l : List Int} : ∀ {k j : Nat}, j < k → vAt l j ≤ vAt l (amaxTo l k)
  | k + 1, j, hj => by
    rw [amaxTo_succ]
    rcases Nat.lt_or_ge j k with h | h
    · have := amaxTo_ge (l := l) h
      split <;> omega
    · have : j = k := by omega
      subst this
      split <;> omega
theorem aminTo_le {l : List Int} : ∀ {k j : Nat}, j < k → vAt l (aminTo l k) ≤ vAt l j
  | k + 1, j, hj => by
    rw [aminTo_succ]
    rcases Nat.lt_or_ge j k with h | h
    · have := aminTo_le (l := l) h
      split <;> omega
    · have : j = k := by omega
      subst this
      split <;> omega

end Go.Proofs.Ytfmgadchjiplmaa
