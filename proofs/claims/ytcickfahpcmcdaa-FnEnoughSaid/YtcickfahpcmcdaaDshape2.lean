/- DrawShapeValid, DrawStrict and DrawEnough draw some shape. Condition: a code of at most 1048576 bytes. -/
import Derived.Test.YtcickfahpcmcdaaDshape
namespace Go.Proofs.Ytcickfahpcmcdaa
open Go.RowKit
set_option linter.unusedSimpArgs false
set_option linter.unusedVariables false
def ShapeGot (w : World) (x : Ending) (w' : World) : Prop := ∃ o e m : Int, x = .returned (shv o e m) ∧ Hid (0 ≤ o ∧ o ≤ 5 ∧ 0 ≤ e ∧ e ≤ 4 ∧ 0 ≤ m ∧ m ≤ 6) ∧ Below w.heap.size w w'
theorem DrawShapeValid_any (A : Option Addr) (n c : Nat) (zs : List Int) (w : World) (hx : RdL uv w A n zs) (hz : ∀ z ∈ zs, 0 ≤ z ∧ z ≤ 255) (hc : n ≤ c) (hn : n ≤ 1048576) :
    Calls Try.prog 24 #[.slice A n c] w (ShapeGot w) := by
  have HZ := Lib.hid hz; clear hz
  have b0 := below_box w (.cells #[.int .i64 0, .int .i64 0, .int .i64 0] 24)
  have Z0 := ShAt.new w 0 0 0
  have hx0 := hx.below b0 (Nat.le_refl _)
  go_enter Try.func24, Try.ntmps24
  go_wp2_with fail
  refine (l20Open_any A n c zs _ hx0 HZ.out hc hn).mono ?_
  rintro x w1 ⟨rb, rfl, hrb, R1, b1⟩
  have Z1 := Z0.below b1
  have B1 := bstep b0 b1
  go_wp2_with fail
  refine (l20Shape_any w1 rb 0 2 R1 (by omega) (by omega) (by omega)).mono ?_
  rintro x w2 ⟨o, e, m, rfl, HB, R2, G2⟩
  have hrb' : w.heap.size < rb := by simp at hrb; omega
  have Z2 := Z1.grown G2 (by simp; omega)
  have B2 := drawn_below B1 B1.size (by omega) G2
  obtain ⟨d0, d1, d2, e0, e1, e2⟩ := Z2.cells
  go_wp2
  refine bodyPost_ret (v := shv o e m) (by simp [results, Try.results24, go_sem, d0, d1, d2]) rfl ?_
  exact ⟨o, e, m, rfl, HB.out, ((B2.setCell (Nat.le_refl _) _).setCell (Nat.le_refl _) _).setCell (Nat.le_refl _) _⟩
theorem DrawStrict_any (A : Option Addr) (n c : Nat) (zs : List Int) (w : World) (hx : RdL uv w A n zs) (hz : ∀ z ∈ zs, 0 ≤ z ∧ z ≤ 255) (hc : n ≤ c) (hn : n ≤ 1048576) :
    Calls Try.prog 27 #[.slice A n c] w (ShapeGot w) := by
  have HZ := Lib.hid hz; clear hz
  have b0 := below_box w (.cells #[.int .i64 0, .int .i64 0, .int .i64 0] 24)
  have Z0 := ShAt.new w 0 0 0
  have hx0 := hx.below b0 (Nat.le_refl _)
  go_enter Try.func27, Try.ntmps27
  go_wp2_with fail
  refine (l20Open_any A n c zs _ hx0 HZ.out hc hn).mono ?_
  rintro x w1 ⟨rb, rfl, hrb, R1, b1⟩
  have Z1 := Z0.below b1
  have B1 := bstep b0 b1
  go_wp2_with fail
  refine (l20Shape_any w1 rb 0 6 R1 (by omega) (by omega) (by omega)).mono ?_
  rintro x w2 ⟨o, e, m, rfl, HB, R2, G2⟩
  have hrb' : w.heap.size < rb := by simp at hrb; omega
  have Z2 := Z1.grown G2 (by simp; omega)
  have B2 := drawn_below B1 B1.size (by omega) G2
  obtain ⟨d0, d1, d2, e0, e1, e2⟩ := Z2.cells
  go_wp2
  refine bodyPost_ret (v := shv o e m) (by simp [results, Try.results27, go_sem, d0, d1, d2]) rfl ?_
  exact ⟨o, e, m, rfl, HB.out, ((B2.setCell (Nat.le_refl _) _).setCell (Nat.le_refl _) _).setCell (Nat.le_refl _) _⟩
theorem DrawEnough_any (A : Option Addr) (n c : Nat) (zs : List Int) (w : World) (hx : RdL uv w A n zs) (hz : ∀ z ∈ zs, 0 ≤ z ∧ z ≤ 255) (hc : n ≤ c) (hn : n ≤ 1048576) :
    Calls Try.prog 31 #[.slice A n c] w (ShapeGot w) := by
  have HZ := Lib.hid hz; clear hz
  have b0 := below_box w (.cells #[.int .i64 0, .int .i64 0, .int .i64 0] 24)
  have Z0 := ShAt.new w 0 0 0
  have hx0 := hx.below b0 (Nat.le_refl _)
  go_enter Try.func31, Try.ntmps31
  go_wp2_with fail
  refine (l20Open_any A n c zs _ hx0 HZ.out hc hn).mono ?_
  rintro x w1 ⟨rb, rfl, hrb, R1, b1⟩
  have Z1 := Z0.below b1
  have B1 := bstep b0 b1
  go_wp2_with fail
  refine (l20Shape_any w1 rb 0 6 R1 (by omega) (by omega) (by omega)).mono ?_
  rintro x w2 ⟨o, e, m, rfl, HB, R2, G2⟩
  have hrb' : w.heap.size < rb := by simp at hrb; omega
  have Z2 := Z1.grown G2 (by simp; omega)
  have B2 := drawn_below B1 B1.size (by omega) G2
  obtain ⟨d0, d1, d2, e0, e1, e2⟩ := Z2.cells
  go_wp2
  refine bodyPost_ret (v := shv o e m) (by simp [results, Try.results31, go_sem, d0, d1, d2]) rfl ?_
  exact ⟨o, e, m, rfl, HB.out, ((B2.setCell (Nat.le_refl _) _).setCell (Nat.le_refl _) _).setCell (Nat.le_refl _) _⟩
end Go.Proofs.Ytcickfahpcmcdaa
