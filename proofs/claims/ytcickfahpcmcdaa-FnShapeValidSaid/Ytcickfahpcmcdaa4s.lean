/- ShapeValid, Strict and Enough, in the program and in the reference, answer one and the same plain function of the three numbers. No condition but that a shape's numbers fit their kind. -/
import Derived.Test.YtcickfahpcmcdaaCom
namespace Go.Proofs.Ytcickfahpcmcdaa
open Go.RowKit
set_option linter.unusedSimpArgs false
set_option linter.unusedVariables false

/-- A shape's three numbers as a value. -/
abbrev shv (o e m : Int) : Value := .agg #[.int .i64 o, .int .i64 e, .int .i64 m]
def shapeB (o e m : Int) : Bool := inB o 1 4 && (inB e 1 3 && inB m 1 5)
def enoughB (o e m : Int) : Bool := shapeB o e m && decide (e ≤ m)
def strictB (o e m : Int) : Bool := shapeB o e m && decide (2 * e - 1 ≤ m)

theorem below_box (w : World) (o : Obj) : Below w.heap.size w (w.alloc o) := (Below.refl _ _).alloc (Nat.le_refl _) o
theorem impl_ShapeValid (o e m : Int) (w : World) : Calls Try.prog 25 #[shv o e m] w fun x w' => x = .returned (.bool (shapeB o e m)) ∧ Below w.heap.size w w' := by
  go_enter Try.func25, Try.ntmps25
  go_wp2
  all_goals
    go_ret
    exact ⟨ret_bool (by rw [Bool.eq_iff_iff]; simp [shapeB, inB]; omega), below_box w _⟩
theorem spec_ShapeValid (o e m : Int) (w : World) : Calls Try.prog 26 #[shv o e m] w fun x w' => x = .returned (.bool (shapeB o e m)) ∧ Below w.heap.size w w' := by
  go_enter Try.func26, Try.ntmps26
  go_wp2
  all_goals
    go_ret
    exact ⟨ret_bool (by rw [Bool.eq_iff_iff]; simp [shapeB, inB]; omega), below_box w _⟩
theorem impl_Enough (o e m : Int) (w : World) : Calls Try.prog 30 #[shv o e m] w fun x w' => x = .returned (.bool (enoughB o e m)) ∧ Below w.heap.size w w' := by
  by_cases hs : shapeB o e m = true
  · have hb : 1 ≤ e ∧ e ≤ 3 ∧ 1 ≤ m ∧ m ≤ 5 := by simp [shapeB, inB] at hs; omega
    obtain ⟨hb1, hb2, hb3, hb4⟩ := hb
    have HS := Lib.hid hs; clear hs
    go_enter Try.func30, Try.ntmps30
    go_wp2_with fail
    refine (impl_ShapeValid o e m _).mono ?_
    rintro x w1 ⟨rfl, b1⟩
    rw [HS.out]
    have c0 := b1.cell (p := ⟨w.heap.size, 0, none⟩) (by simp)
    have c1 := b1.cell (p := ⟨w.heap.size, 1, none⟩) (by simp)
    have c2 := b1.cell (p := ⟨w.heap.size, 2, none⟩) (by simp)
    go_wp2
    all_goals
      go_ret
      exact ⟨ret_bool (by rw [enoughB, HS.out, Bool.eq_iff_iff]; simp; try omega), (below_box w _).trans (b1.mono (by simp))⟩
  · have HS : Hid (shapeB o e m = false) := by cases h : shapeB o e m; · rfl
                                               · exact absurd h hs
    clear hs
    go_enter Try.func30, Try.ntmps30
    go_wp2_with fail
    refine (impl_ShapeValid o e m _).mono ?_
    rintro x w1 ⟨rfl, b1⟩
    rw [HS.out]
    go_wp2
    go_ret
    exact ⟨ret_bool (by rw [enoughB, HS.out]; rfl), (below_box w _).trans (b1.mono (by simp))⟩
theorem spec_Enough (o e m : Int) (w : World) : Calls Try.prog 18 #[shv o e m] w fun x w' => x = .returned (.bool (enoughB o e m)) ∧ Below w.heap.size w w' := by
  by_cases hs : shapeB o e m = true
  · have hb : 1 ≤ e ∧ e ≤ 3 ∧ 1 ≤ m ∧ m ≤ 5 := by simp [shapeB, inB] at hs; omega
    obtain ⟨hb1, hb2, hb3, hb4⟩ := hb
    have HS := Lib.hid hs; clear hs
    go_enter Try.func18, Try.ntmps18
    go_wp2_with fail
    refine (spec_ShapeValid o e m _).mono ?_
    rintro x w1 ⟨rfl, b1⟩
    rw [HS.out]
    have c0 := b1.cell (p := ⟨w.heap.size, 0, none⟩) (by simp)
    have c1 := b1.cell (p := ⟨w.heap.size, 1, none⟩) (by simp)
    have c2 := b1.cell (p := ⟨w.heap.size, 2, none⟩) (by simp)
    go_wp2
    all_goals
      go_ret
      exact ⟨ret_bool (by rw [enoughB, HS.out, Bool.eq_iff_iff]; simp; try omega), (below_box w _).trans (b1.mono (by simp))⟩
  · have HS : Hid (shapeB o e m = false) := by cases h : shapeB o e m; · rfl
                                               · exact absurd h hs
    clear hs
    go_enter Try.func18, Try.ntmps18
    go_wp2_with fail
    refine (spec_ShapeValid o e m _).mono ?_
    rintro x w1 ⟨rfl, b1⟩
    rw [HS.out]
    go_wp2
    go_ret
    exact ⟨ret_bool (by rw [enoughB, HS.out]; rfl), (below_box w _).trans (b1.mono (by simp))⟩
theorem impl_Strict (o e m : Int) (w : World) : Calls Try.prog 28 #[shv o e m] w fun x w' => x = .returned (.bool (strictB o e m)) ∧ Below w.heap.size w w' := by
  by_cases hs : shapeB o e m = true
  · have hb : 1 ≤ e ∧ e ≤ 3 ∧ 1 ≤ m ∧ m ≤ 5 := by simp [shapeB, inB] at hs; omega
    obtain ⟨hb1, hb2, hb3, hb4⟩ := hb
    have HS := Lib.hid hs; clear hs
    go_enter Try.func28, Try.ntmps28
    go_wp2_with fail
    refine (impl_ShapeValid o e m _).mono ?_
    rintro x w1 ⟨rfl, b1⟩
    rw [HS.out]
    have c0 := b1.cell (p := ⟨w.heap.size, 0, none⟩) (by simp)
    have c1 := b1.cell (p := ⟨w.heap.size, 1, none⟩) (by simp)
    have c2 := b1.cell (p := ⟨w.heap.size, 2, none⟩) (by simp)
    go_wp2
    all_goals
      go_ret
      exact ⟨ret_bool (by rw [strictB, HS.out, Bool.eq_iff_iff]; simp; try omega), (below_box w _).trans (b1.mono (by simp))⟩
  · have HS : Hid (shapeB o e m = false) := by cases h : shapeB o e m; · rfl
                                               · exact absurd h hs
    clear hs
    go_enter Try.func28, Try.ntmps28
    go_wp2_with fail
    refine (impl_ShapeValid o e m _).mono ?_
    rintro x w1 ⟨rfl, b1⟩
    rw [HS.out]
    go_wp2
    go_ret
    exact ⟨ret_bool (by rw [strictB, HS.out]; rfl), (below_box w _).trans (b1.mono (by simp))⟩
theorem spec_Strict (o e m : Int) (w : World) : Calls Try.prog 29 #[shv o e m] w fun x w' => x = .returned (.bool (strictB o e m)) ∧ Below w.heap.size w w' := by
  by_cases hs : shapeB o e m = true
  · have hb : 1 ≤ e ∧ e ≤ 3 ∧ 1 ≤ m ∧ m ≤ 5 := by simp [shapeB, inB] at hs; omega
    obtain ⟨hb1, hb2, hb3, hb4⟩ := hb
    have HS := Lib.hid hs; clear hs
    go_enter Try.func29, Try.ntmps29
    go_wp2_with fail
    refine (spec_ShapeValid o e m _).mono ?_
    rintro x w1 ⟨rfl, b1⟩
    rw [HS.out]
    have c0 := b1.cell (p := ⟨w.heap.size, 0, none⟩) (by simp)
    have c1 := b1.cell (p := ⟨w.heap.size, 1, none⟩) (by simp)
    have c2 := b1.cell (p := ⟨w.heap.size, 2, none⟩) (by simp)
    go_wp2
    all_goals
      go_ret
      exact ⟨ret_bool (by rw [strictB, HS.out, Bool.eq_iff_iff]; simp; try omega), (below_box w _).trans (b1.mono (by simp))⟩
  · have HS : Hid (shapeB o e m = false) := by cases h : shapeB o e m; · rfl
                                               · exact absurd h hs
    clear hs
    go_enter Try.func29, Try.ntmps29
    go_wp2_with fail
    refine (spec_ShapeValid o e m _).mono ?_
    rintro x w1 ⟨rfl, b1⟩
    rw [HS.out]
    go_wp2
    go_ret
    exact ⟨ret_bool (by rw [strictB, HS.out]; rfl), (below_box w _).trans (b1.mono (by simp))⟩
end Go.Proofs.Ytcickfahpcmcdaa
