/- isOrder and PermValid of the program: whether a list is a permutation; alive answers true. Condition: at most 1048576 numbers. -/
import Derived.Test.YtlekmebfpfdllaaCom
import Derived.Test.YtlekmebfpfdllaaMem2
import Derived.Test.YtlekmebfpfdllaaPlain
namespace Go.Proofs.Ytlekmebfpfdllaa
open Go.RowKit
set_option linter.unusedSimpArgs false
set_option linter.unusedVariables false
/-- Just the places of the list's first k numbers are true. -/
def SeenTo (xs : List Int) (k n : Nat) (ss : List Bool) : Prop := ss.length = n ∧ ∀ j : Nat, ss[j]? = some true ↔ j < n ∧ (j : Int) ∈ xs.take k
theorem SeenTo.zero (xs : List Int) (n : Nat) : SeenTo xs 0 n (List.replicate n false) := by
  refine ⟨by simp, fun j => ?_⟩
  rw [List.getElem?_replicate]
  split <;> simp
theorem SeenTo.succ {xs : List Int} {k n v : Nat} {ss : List Bool} (h : SeenTo xs k n ss) (hx : xs[k]? = some (v : Int)) (hv : v < n) : SeenTo xs (k + 1) n (ss.set v true) := by
  refine ⟨by simp [h.1], fun j => ?_⟩
  rw [take_snoc' hx, List.mem_append, List.getElem?_set]
  by_cases hj : v = j
  · subst hj
    rw [if_pos rfl, if_pos (by rw [h.1]; exact hv)]
    simp [hv]
  · rw [if_neg hj, h.2 j]
    simp; omega
theorem SeenTo.out {xs : List Int} {k n v : Nat} {ss : List Bool} {b : Bool} (h : SeenTo xs k n ss) (hv : v < n) (hb : ss[v]? = some b) : b = true ↔ (v : Int) ∈ xs.take k := by
  have := h.2 v
  rw [hb] at this
  simpa [hv] using this
end Go.Proofs.Ytlekmebfpfdllaa
