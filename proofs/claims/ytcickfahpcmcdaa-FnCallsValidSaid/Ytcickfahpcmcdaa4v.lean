/- CallsValid of the program and of the reference answer whether the calls are possible at the same time. Condition: at most 1048576 calls. -/
import Derived.Test.Ytcickfahpcmcdaa4s
import Derived.Test.Ytcickfahpcmcdaa4c
import Derived.Deep.RegionHeld3
namespace Go.Proofs.Ytcickfahpcmcdaa
open Go.RowKit
set_option linter.unusedSimpArgs false
set_option linter.unusedVariables false
theorem shape_ok {o e m : Int} : shapeB o e m = true ↔ ShapeOk o e m := by
  simp only [shapeB, inB, ShapeOk, Bool.and_eq_true, decide_eq_true_eq]
  constructor
  · rintro ⟨⟨h1, h2⟩, ⟨h3, h4⟩, h5, h6⟩; exact ⟨h1, h2, h3, h4, h5, h6⟩
  · rintro ⟨h1, h2, h3, h4, h5, h6⟩; exact ⟨⟨h1, h2⟩, ⟨h3, h4⟩, h5, h6⟩
theorem prod_bd {o e m : Int} (h : ShapeOk o e m) : 1 ≤ o * e ∧ o * e ≤ 12 := by
  obtain ⟨h1, h2, h3, h4, _⟩ := h
  rcases (by omega : o = 1 ∨ o = 2 ∨ o = 3 ∨ o = 4) with rfl | rfl | rfl | rfl <;> omega
def lineB (o e x : Int) : Bool := decide (0 ≤ x) && decide (x < o * e)
theorem lineB_iff {o e x : Int} : lineB o e x = true ↔ LineOk o e x := by simp [lineB, LineOk]
theorem impl_hasLine (o e m x : Int) (w : World) (h : ShapeOk o e m) : Calls Try.prog 64 #[shv o e m, .int .i64 x] w fun r w' => r = .returned (.bool (lineB o e x)) ∧ Below w.heap.size w w' := by
  obtain ⟨hp1, hp2⟩ := prod_bd h
  obtain ⟨h1, h2, h3, h4, -⟩ := h
  unfold lineB
  by_cases hx0 : 0 ≤ x
  · by_cases hx1 : x < o * e
    · go_enter Try.func64, Try.ntmps64
      go_wp2
      go_ret
      exact ⟨ret_bool (by simp [hx0, hx1]), below_box _ _⟩
    · go_enter Try.func64, Try.ntmps64
      go_wp2
      go_ret
      exact ⟨ret_bool (by simp [hx0, hx1]), below_box _ _⟩
  · have hx0z : decide (0 ≤ x) = false := by simpa using hx0
    go_enter Try.func64, Try.ntmps64
    go_wp2
    go_ret
    exact ⟨ret_bool (by simp [hx0z]), below_box _ _⟩
theorem spec_l4Lines (o e m : Int) (w : World) (hp1 : -1000000 ≤ o * e) (hp2 : o * e ≤ 1000000) : Calls Try.prog 58 #[shv o e m] w fun r w' => r = .returned (.int .i64 (o * e)) ∧ Below w.heap.size w w' := by
  go_enter Try.func58, Try.ntmps58
  go_wp2
  go_ret
  exact ⟨ret_int rfl, below_box _ _⟩
end Go.Proofs.Ytcickfahpcmcdaa
