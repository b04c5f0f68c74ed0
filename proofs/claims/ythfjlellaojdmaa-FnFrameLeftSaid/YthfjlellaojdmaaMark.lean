/- markXS writes marks into a list of the call's own; heldXS tells whether they are still there. Condition: at most 2000000 elements. -/
import Derived.Test.YthfjlellaojdmaaCom
import Derived.Test.YthfjlellaojdmaaMem2
namespace Go.Proofs.Ythfjlellaojdmaa
open Go.RowKit
set_option linter.unusedSimpArgs false
set_option linter.unusedVariables false
/-- The first k of the elements are marks. -/
def MarkTo {α : Type} (f : Nat → α) (k n : Nat) (zs : List α) : Prop := zs.length = n ∧ ∀ j : Nat, j < k → zs[j]? = some (f j)
theorem MarkTo.succ {α : Type} {f : Nat → α} {k n : Nat} {zs : List α} (h : MarkTo f k n zs) (hk : k < n) : MarkTo f (k + 1) n (zs.set k (f k)) := by
  refine ⟨by simp [h.1], fun j hj => ?_⟩
  rw [List.getElem?_set]
  by_cases e : k = j
  · subst e; rw [if_pos rfl, if_pos (by rw [h.1]; exact hk)]
  · rw [if_neg e]; exact h.2 j (by omega)
end Go.Proofs.Ythfjlellaojdmaa
