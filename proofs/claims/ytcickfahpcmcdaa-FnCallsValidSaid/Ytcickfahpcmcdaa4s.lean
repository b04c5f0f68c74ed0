/- ShapeValid, Strict and Enough, in the program and in the reference, answer one and the same plain function of the three numbers. No condition but that a shape's numbers fit their kind. -/
import Derived.Test.YtcickfahpcmcdaaCom
import Derived.Test.YtcickfahpcmcdaaMem2
import Derived.Test.Ytcickfahpcmcdaa4m
namespace Go.Proofs.Ytcickfahpcmcdaa
open Go.RowKit
set_option linter.unusedSimpArgs false
set_option linter.unusedVariables false

/-- A shape's three numbers as a value. -/
abbrev shv (o e m : Int) : Value := .agg #[.int .i64 o, .int .i64 e, .int .i64 m]
def shapeB (o e m : Int) : Bool := inB o 1 4 && (inB e 1 3 && inB m 1 5)
def enoughB (o e m : Int) : Bool := shapeB o e m && decide (e ≤ m)
def strictB (o e m : Int) : Bool := shapeB o e m && decide (2 * e - 1 ≤ m)

theorem impl_ShapeValid (o e m : Int) (w : World) : Calls Try.prog 25 #[shv o e m] w fun x w' => x = .returned (.bool (shapeB o e m)) ∧ Below w.heap.size w w' := by
  go_enter Try.func25, Try.ntmps25
  go_wp2
  all_goals
    go_ret
    exact ⟨ret_bool (by rw [Bool.eq_iff_iff]; simp [shapeB, inB]; omega), below_box w _⟩
theorem spec_ShapeValid (o e m : Int) (w : World) : Calls Try.prog 26 #[shv o e m] w fun x w' => x = .returned (.bool (shapeB o e m)) ∧ Below w.heap.size w w' := by
  go_enter Try.func26, Try.ntmps26
  go_wp2
  all_goals
    go_ret
    exact ⟨ret_bool (by rw [Bool.eq_iff_iff]; simp [shapeB, inB]; omega), below_box w _⟩
theorem impl_Enough (o e m : Int) (w : World) : Calls Try.prog 30 #[shv o e m] w fun x w' => x = .returned (.bool (enoughB o e m)) ∧ Below w.heap.size w w' := by
  by_cases hs : shapeB o e m = true
  · have hb : 1 ≤ e ∧ e ≤ 3 ∧ 1 ≤ m ∧ m ≤ 5 := by simp [shapeB, inB] at hs; omega
    obtain ⟨hb1, hb2, hb3, hb4⟩ := hb
    have HS := Lib.hid hs; clear hs
    go_enter Try.func30, Try.ntmps30
    go_wp2_with fail
    refine (impl_ShapeValid o e m _).mono ?_
    rintro x w1 ⟨rfl, b1⟩
    rw [HS.out]
    have c0 := b1.cell (p := ⟨w.heap.size, 0, none⟩) (by simp)
    have c1 := b1.cell (p := ⟨w.heap.size, 1, none⟩) (by simp)
    have c2 := b1.cell (p := ⟨w.heap.size, 2, none⟩) (by simp)
    go_wp2
    all_goals
      go_ret
      exact ⟨ret_bool (by rw [enoughB, HS.out, Bool.eq_iff_iff]; simp; try omega), (below_box w _).trans (b1.mono (by simp))⟩
  · have HS : Hid (shapeB o e m = false) := by cases h : shapeB o e m; · rfl
                                               · exact absurd h hs
    clear hs
    go_enter Try.func30, Try.ntmps30
    go_wp2_with fail
    refine (impl_ShapeValid o e m _).mono ?_
    rintro x w1 ⟨rfl, b1⟩
    rw [HS.out]
    go_wp2
    go_ret
    exact ⟨ret_bool (by rw [enoughB, HS.out]; rfl), (below_box w _).trans (b1.mono (by simp))⟩
theorem spec_Enough (o e m : Int) (w : World) : Calls Try.prog 18 #[shv o e m] w fun x w' => x = .returned (.bool (enoughB o e m)) ∧ Below w.heap.size w w' := by
  by_cases hs : shapeB o e m = true
  · have hb : 1 ≤ e ∧ e ≤ 3 ∧ 1 ≤ m ∧ m ≤ 5 := by simp [shapeB, inB] at hs; omega
    obtain ⟨hb1, hb2, hb3, hb4⟩ := hb
    have HS := Lib.hid hs; clear hs
    go_enter Try.func18, Try.ntmps18
    go_wp2_with fail
    refine (spec_ShapeValid o e m _).mono ?_
    rintro x w1 ⟨rfl, b1⟩
    rw [HS.out]
    have c0 := b1.cell (p := ⟨w.heap.size, 0, none⟩) (by simp)
    have c1 := b1.cell (p := ⟨w.heap.size, 1, none⟩) (by simp)
    have c2 := b1.cell (p := ⟨w.heap.size, 2, none⟩) (by simp)
    go_wp2
    all_goals
      go_ret
      exact ⟨ret_bool (by rw [enoughB, HS.out, Bool.eq_iff_iff]; simp; try omega), (below_box w _).trans (b1.mono (by simp))⟩
  · have HS : Hid (shapeB o e m = false) := by cases h : shapeB o e m; · rfl
                                               · exact absurd h hs
    clear hs
    go_enter Try.func18, Try.ntmps18
    go_wp2_with fail
    refine (spec_ShapeValid o e m _).mono ?_
    rintro x w1 ⟨rfl, b1⟩
    rw [HS.out]
    go_wp2
    go_ret
    exact ⟨ret_bool (by rw [enoughB, HS.out]; rfl), (below_box w _).trans (b1.mono (by simp))⟩
theorem impl_Strict (o e m : Int) (w : World) : Calls Try.prog 28 #[shv o e m] w fun x w' => x = .returned (.bool (strictB o e m)) ∧ Below w.heap.size w w' := by
  by_cases hs : shapeB o e m = true
  · have hb : 1 ≤ e ∧ e ≤ 3 ∧ 1 ≤ m ∧ m ≤ 5 := by simp [shapeB, inB] at hs; omega
    obtain ⟨hb1, hb2, hb3, hb4⟩ := hb
    have HS := Lib.hid hs; clear hs
    go_enter Try.func28, Try.ntmps28
    go_wp2_with fail
    refine (impl_ShapeValid o e m _).mono ?_
    rintro x w1 ⟨rfl, b1⟩
    rw [HS.out]
    have c0 := b1.cell (p := ⟨w.heap.size, 0, none⟩) (by simp)
    have c1 := b1.cell (p := ⟨w.heap.size, 1, none⟩) (by simp)
    have c2 := b1.cell (p := ⟨w.heap.size, 2, none⟩) (by simp)
    go_wp2
    all_goals
      go_ret
      exact ⟨ret_bool (by rw [strictB, HS.out, Bool.eq_iff_iff]; simp; try omega), (below_box w _).trans (b1.mono (by simp))⟩
  · have HS : Hid (shapeB o e m = false) := by cases h : shapeB o e m; · rfl
                                               · exact absurd h hs
    clear hs
    go_enter Try.func28, Try.ntmps28
    go_wp2_with fail
    refine (impl_ShapeValid o e m _).mono ?_
    rintro x w1 ⟨rfl, b1⟩
    rw [HS.out]
    go_wp2
    go_ret
    exact ⟨ret_bool (by rw [strictB, HS.out]; rfl), (below_box w _).trans (b1.mono (by simp))⟩
theorem spec_Strict (o e m : Int) (w : World) : Calls Try.prog 29 #[shv o e m] w fun x w' => x = .returned (.bool (strictB o e m)) ∧ Below w.heap.size w w' := by
  by_cases hs : shapeB o e m = true
  · have hb : 1 ≤ e ∧ e ≤ 3 ∧ 1 ≤ m ∧ m ≤ 5 := by simp [shapeB, inB] at hs; omega
    obtain ⟨hb1, hb2, hb3, hb4⟩ := hb
    have HS := Lib.hid hs; clear hs
    go_enter Try.func29, Try.ntmps29
    go_wp2_with fail
    refine (spec_ShapeValid o e m _).mono ?_
    rintro x w1 ⟨rfl, b1⟩
    rw [HS.out]
    have c0 := b1.cell (p := ⟨w.heap.size, 0, none⟩) (by simp)
    have c1 := b1.cell (p := ⟨w.heap.size, 1, none⟩) (by simp)
    have c2 := b1.cell (p := ⟨w.heap.size, 2, none⟩) (by simp)
    go_wp2
    all_goals
      go_ret
      exact ⟨ret_bool (by rw [strictB, HS.out, Bool.eq_iff_iff]; simp; try omega), (below_box w _).trans (b1.mono (by simp))⟩
  · have HS : Hid (shapeB o e m = false) := by cases h : shapeB o e m; · rfl
                                               · exact absurd h hs
    clear hs
    go_enter Try.func29, Try.ntmps29
    go_wp2_with fail
    refine (spec_ShapeValid o e m _).mono ?_
    rintro x w1 ⟨rfl, b1⟩
    rw [HS.out]
    go_wp2
    go_ret
    exact ⟨ret_bool (by rw [strictB, HS.out]; rfl), (below_box w _).trans (b1.mono (by simp))⟩
/-- A shape lies in block g. -/
def ShAt (w : World) (g : Nat) (o e m : Int) : Prop := w.heap[g]? = some (.cells #[.int .i64 o, .int .i64 e, .int .i64 m] 24 (0, 0))
/-- A call lies in block g. -/
def ClAt (w : World) (g : Nat) (c : Cl) : Prop := w.heap[g]? = some (.cells #[.int .i64 c.i, .int .i64 c.o, .int .i64 c.v] 36 (0, 0))
theorem blk_lt {w : World} {g : Nat} {o : Obj} (h : w.heap[g]? = some o) : g < w.heap.size := by
  rcases Nat.lt_or_ge g w.heap.size with hlt | hge
  · exact hlt
  · rw [Array.getElem?_eq_none hge] at h; cases h
theorem ShAt.lt {w : World} {g : Nat} {o e m : Int} (h : ShAt w g o e m) : g < w.heap.size := blk_lt h
theorem ClAt.lt {w : World} {g : Nat} {c : Cl} (h : ClAt w g c) : g < w.heap.size := blk_lt h
theorem ShAt.cells {w : World} {g : Nat} {o e m : Int} (h : ShAt w g o e m) : w.cell? ⟨g, 0, none⟩ = some (.int .i64 o) ∧ w.cell? ⟨g, 1, none⟩ = some (.int .i64 e) ∧ w.cell? ⟨g, 2, none⟩ = some (.int .i64 m) ∧
    w.frozen? ⟨g, 0, none⟩ = false ∧ w.frozen? ⟨g, 1, none⟩ = false ∧ w.frozen? ⟨g, 2, none⟩ = false := by
  refine ⟨by rw [cell_of_row w g 0 _ _ _ h]; rfl, by rw [cell_of_row w g 1 _ _ _ h]; rfl, by rw [cell_of_row w g 2 _ _ _ h]; rfl, ?_, ?_, ?_⟩ <;> simp [World.frozen?, show w.heap[g]? = _ from h]
theorem ClAt.cells {w : World} {g : Nat} {c : Cl} (h : ClAt w g c) : w.cell? ⟨g, 0, none⟩ = some (.int .i64 c.i) ∧ w.cell? ⟨g, 1, none⟩ = some (.int .i64 c.o) ∧ w.cell? ⟨g, 2, none⟩ = some (.int .i64 c.v) ∧
    w.frozen? ⟨g, 0, none⟩ = false ∧ w.frozen? ⟨g, 1, none⟩ = false ∧ w.frozen? ⟨g, 2, none⟩ = false := by
  refine ⟨by rw [cell_of_row w g 0 _ _ _ h]; rfl, by rw [cell_of_row w g 1 _ _ _ h]; rfl, by rw [cell_of_row w g 2 _ _ _ h]; rfl, ?_, ?_, ?_⟩ <;> simp [World.frozen?, show w.heap[g]? = _ from h]
theorem ShAt.new (w : World) (o e m : Int) : ShAt (w.alloc (.cells #[.int .i64 o, .int .i64 e, .int .i64 m] 24)) w.heap.size o e m := heap_alloc_new w _
theorem ClAt.new (w : World) (c : Cl) : ClAt (w.alloc (.cells #[.int .i64 c.i, .int .i64 c.o, .int .i64 c.v] 36)) w.heap.size c := heap_alloc_new w _
theorem ShAt.grown {w w' : World} {g : Nat} {o e m : Int} {row : Option Nat} (h : ShAt w g o e m) (hg : w.grownBy w' row) (hne : some g ≠ row) : ShAt w' g o e m := (hg.block g h.lt hne).trans h
theorem ClAt.grown {w w' : World} {g : Nat} {c : Cl} {row : Option Nat} (h : ClAt w g c) (hg : w.grownBy w' row) (hne : some g ≠ row) : ClAt w' g c := (hg.block g h.lt hne).trans h
theorem ShAt.below {w w' : World} {g : Nat} {o e m : Int} (h : ShAt w g o e m) (hb : Below w.heap.size w w') : ShAt w' g o e m := (hb.block g h.lt).trans h
theorem ClAt.below {w w' : World} {g : Nat} {c : Cl} (h : ClAt w g c) (hb : Below w.heap.size w w') : ClAt w' g c := (hb.block g h.lt).trans h
theorem ShAt.alloc {w : World} {g : Nat} {o e m : Int} (h : ShAt w g o e m) (ob : Obj) : ShAt (w.alloc ob) g o e m := (Below.heap_alloc w ob g h.lt).trans h
theorem ClAt.alloc {w : World} {g : Nat} {c : Cl} (h : ClAt w g c) (ob : Obj) : ClAt (w.alloc ob) g c := (Below.heap_alloc w ob g h.lt).trans h
theorem ShAt.drewN {w : World} {g : Nat} {o e m : Int} (h : ShAt w g o e m) (k : Nat) : ShAt (w.drewN k) g o e m := h
theorem ClAt.drewN {w : World} {g : Nat} {c : Cl} (h : ClAt w g c) (k : Nat) : ClAt (w.drewN k) g c := h
theorem ShAt.drew {w : World} {g : Nat} {o e m : Int} (h : ShAt w g o e m) : ShAt w.drew g o e m := h
theorem ClAt.drew {w : World} {g : Nat} {c : Cl} (h : ClAt w g c) : ClAt w.drew g c := h

end Go.Proofs.Ytcickfahpcmcdaa
