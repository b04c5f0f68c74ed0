/- What the draws of calls hand over: DrawCallsValid, DrawMiddleFree, DrawCallPut, DrawCallMove, DrawCallDrop, DrawCallsMoved. Condition: a code of at most 1048576 bytes. -/
import Derived.Test.YtcickfahpcmcdaaAsk
namespace Go.Proofs.Ytcickfahpcmcdaa
open Go.RowKit
set_option linter.unusedSimpArgs false
set_option linter.unusedVariables false
def CallsGot (w : World) (x : Ending) (w' : World) : Prop :=
  ∃ (o e m : Int) (A : Option Addr) (n c : Nat) (xs : List Cl), x = .returned (.tuple #[shv o e m, .slice A n c]) ∧ Hid (0 ≤ o ∧ o ≤ 5 ∧ 0 ≤ e ∧ e ≤ 4 ∧ 0 ≤ m ∧ m ≤ 6) ∧ n ≤ 16 ∧ OwnC w' w.heap.size 36 A n c xs ∧ Below w.heap.size w w'
def AskedGot (w : World) (x : Ending) (w' : World) : Prop :=
  ∃ (o e m : Int) (A : Option Addr) (n c : Nat) (xs : List Cl) (i q : Int), x = .returned (.tuple #[shv o e m, .slice A n c, .int .i64 i, .int .i64 q]) ∧ Hid (0 ≤ o ∧ o ≤ 5 ∧ 0 ≤ e ∧ e ≤ 4 ∧ 0 ≤ m ∧ m ≤ 6) ∧ n ≤ 16 ∧ OwnC w' w.heap.size 36 A n c xs ∧ Below w.heap.size w w'
theorem DrawCallsValid_any (A : Option Addr) (n c : Nat) (zs : List Int) (w : World) (hx : RdL uv w A n zs) (hz : ∀ z ∈ zs, 0 ≤ z ∧ z ≤ 255) (hc : n ≤ c) (hn : n ≤ 1048576) :
    Calls Try.prog 33 #[.slice A n c] w (CallsGot w) := by
  have HZ := Lib.hid hz; clear hz
  have b0 := below_box w (.cells #[.int .i64 0, .int .i64 0, .int .i64 0] 24)
  have Z0 := ShAt.new w 0 0 0
  have hx0 := hx.below b0 (Nat.le_refl _)
  go_enter Try.func33, Try.ntmps33
  go_wp2_with fail
  refine (l20Open_any A n c zs _ hx0 HZ.out hc hn).mono ?_
  rintro x w1 ⟨rb, rfl, hrb, R1, b1⟩
  have Z1 := Z0.below b1
  have B1 := bstep b0 b1
  go_wp2_with fail
  refine (l20Calls_any w1 rb 0 2 R1 (by omega) (by omega) (by omega)).mono ?_
  rintro x w2 ⟨o, e, m, A2, n2, c2, xs, rfl, HB, hn2, O2, R2, G2⟩
  have hrb' : w.heap.size < rb := by simp at hrb; omega
  have hs1 := b1.size
  simp at hs1
  have Z2 := Z1.grown G2 (by simp; omega)
  have B2 := drawn_below B1 B1.size (by omega) G2
  have hA : blk A2 ≠ some w.heap.size := fun hh => by have := (OwnM.lt O2 hh).1; omega
  obtain ⟨d0, d1, d2, e0, e1, e2⟩ := Z2.cells
  go_wp2
  refine bodyPost_ret (v := .tuple #[shv o e m, .slice A2 n2 c2]) (by simp [results, Try.results33, go_sem, d0, d1, d2]) rfl ?_
  exact ⟨o, e, m, A2, n2, c2, xs, rfl, HB.out, hn2, OwnM.mono (OwnM.far (OwnM.far (OwnM.far O2 _ _ hA) _ _ hA) _ _ hA) (by omega), ((B2.setCell (Nat.le_refl _) _).setCell (Nat.le_refl _) _).setCell (Nat.le_refl _) _⟩
theorem DrawMiddleFree_any (A : Option Addr) (n c : Nat) (zs : List Int) (w : World) (hx : RdL uv w A n zs) (hz : ∀ z ∈ zs, 0 ≤ z ∧ z ≤ 255) (hc : n ≤ c) (hn : n ≤ 1048576) :
    Calls Try.prog 39 #[.slice A n c] w (AskedGot w) := by
  have HZ := Lib.hid hz; clear hz
  have b0 := below_box w (.cells #[.int .i64 0, .int .i64 0, .int .i64 0] 24)
  have Z0 := ShAt.new w 0 0 0
  have hx0 := hx.below b0 (Nat.le_refl _)
  go_enter Try.func39, Try.ntmps39
  go_wp2_with fail
  refine (l20Open_any A n c zs _ hx0 HZ.out hc hn).mono ?_
  rintro x w1 ⟨rb, rfl, hrb, R1, b1⟩
  have Z1 := Z0.below b1
  have B1 := bstep b0 b1
  go_wp2_with fail
  refine (l20Asked_any w1 rb 0 9 R1 (by omega) (by omega) (by omega)).mono ?_
  rintro x w2 ⟨o, e, m, A2, n2, c2, xs, i, q, rfl, HB, hn2, O2, R2, G2⟩
  have hrb' : w.heap.size < rb := by simp at hrb; omega
  have hs1 := b1.size
  simp at hs1
  have Z2 := Z1.grown G2 (by simp; omega)
  have B2 := drawn_below B1 B1.size (by omega) G2
  have hA : blk A2 ≠ some w.heap.size := fun hh => by have := (OwnM.lt O2 hh).1; omega
  obtain ⟨d0, d1, d2, e0, e1, e2⟩ := Z2.cells
  go_wp2
  refine bodyPost_ret (v := .tuple #[shv o e m, .slice A2 n2 c2, .int .i64 i, .int .i64 q]) (by simp [results, Try.results39, go_sem, d0, d1, d2]) rfl ?_
  exact ⟨o, e, m, A2, n2, c2, xs, i, q, rfl, HB.out, hn2, OwnM.mono (OwnM.far (OwnM.far (OwnM.far O2 _ _ hA) _ _ hA) _ _ hA) (by omega), ((B2.setCell (Nat.le_refl _) _).setCell (Nat.le_refl _) _).setCell (Nat.le_refl _) _⟩
theorem DrawCallPut_any (A : Option Addr) (n c : Nat) (zs : List Int) (w : World) (hx : RdL uv w A n zs) (hz : ∀ z ∈ zs, 0 ≤ z ∧ z ≤ 255) (hc : n ≤ c) (hn : n ≤ 1048576) :
    Calls Try.prog 45 #[.slice A n c] w (AskedGot w) := by
  have HZ := Lib.hid hz; clear hz
  have b0 := below_box w (.cells #[.int .i64 0, .int .i64 0, .int .i64 0] 24)
  have Z0 := ShAt.new w 0 0 0
  have hx0 := hx.below b0 (Nat.le_refl _)
  go_enter Try.func45, Try.ntmps45
  go_wp2_with fail
  refine (l20Open_any A n c zs _ hx0 HZ.out hc hn).mono ?_
  rintro x w1 ⟨rb, rfl, hrb, R1, b1⟩
  have Z1 := Z0.below b1
  have B1 := bstep b0 b1
  go_wp2_with fail
  refine (l20Asked_any w1 rb 0 9 R1 (by omega) (by omega) (by omega)).mono ?_
  rintro x w2 ⟨o, e, m, A2, n2, c2, xs, i, q, rfl, HB, hn2, O2, R2, G2⟩
  have hrb' : w.heap.size < rb := by simp at hrb; omega
  have hs1 := b1.size
  simp at hs1
  have Z2 := Z1.grown G2 (by simp; omega)
  have B2 := drawn_below B1 B1.size (by omega) G2
  have hA : blk A2 ≠ some w.heap.size := fun hh => by have := (OwnM.lt O2 hh).1; omega
  obtain ⟨d0, d1, d2, e0, e1, e2⟩ := Z2.cells
  go_wp2
  refine bodyPost_ret (v := .tuple #[shv o e m, .slice A2 n2 c2, .int .i64 i, .int .i64 q]) (by simp [results, Try.results45, go_sem, d0, d1, d2]) rfl ?_
  exact ⟨o, e, m, A2, n2, c2, xs, i, q, rfl, HB.out, hn2, OwnM.mono (OwnM.far (OwnM.far (OwnM.far O2 _ _ hA) _ _ hA) _ _ hA) (by omega), ((B2.setCell (Nat.le_refl _) _).setCell (Nat.le_refl _) _).setCell (Nat.le_refl _) _⟩
theorem DrawCallMove_any (A : Option Addr) (n c : Nat) (zs : List Int) (w : World) (hx : RdL uv w A n zs) (hz : ∀ z ∈ zs, 0 ≤ z ∧ z ≤ 255) (hc : n ≤ c) (hn : n ≤ 1048576) :
    Calls Try.prog 13 #[.slice A n c] w (AskedGot w) := by
  have HZ := Lib.hid hz; clear hz
  have b0 := below_box w (.cells #[.int .i64 0, .int .i64 0, .int .i64 0] 24)
  have Z0 := ShAt.new w 0 0 0
  have hx0 := hx.below b0 (Nat.le_refl _)
  go_enter Try.func13, Try.ntmps13
  go_wp2_with fail
  refine (l20Open_any A n c zs _ hx0 HZ.out hc hn).mono ?_
  rintro x w1 ⟨rb, rfl, hrb, R1, b1⟩
  have Z1 := Z0.below b1
  have B1 := bstep b0 b1
  go_wp2_with fail
  refine (l20Asked_any w1 rb 0 9 R1 (by omega) (by omega) (by omega)).mono ?_
  rintro x w2 ⟨o, e, m, A2, n2, c2, xs, i, q, rfl, HB, hn2, O2, R2, G2⟩
  have hrb' : w.heap.size < rb := by simp at hrb; omega
  have hs1 := b1.size
  simp at hs1
  have Z2 := Z1.grown G2 (by simp; omega)
  have B2 := drawn_below B1 B1.size (by omega) G2
  have hA : blk A2 ≠ some w.heap.size := fun hh => by have := (OwnM.lt O2 hh).1; omega
  obtain ⟨d0, d1, d2, e0, e1, e2⟩ := Z2.cells
  go_wp2
  refine bodyPost_ret (v := .tuple #[shv o e m, .slice A2 n2 c2, .int .i64 i, .int .i64 q]) (by simp [results, Try.results13, go_sem, d0, d1, d2]) rfl ?_
  exact ⟨o, e, m, A2, n2, c2, xs, i, q, rfl, HB.out, hn2, OwnM.mono (OwnM.far (OwnM.far (OwnM.far O2 _ _ hA) _ _ hA) _ _ hA) (by omega), ((B2.setCell (Nat.le_refl _) _).setCell (Nat.le_refl _) _).setCell (Nat.le_refl _) _⟩
def TwoGot (w : World) (x : Ending) (w' : World) : Prop :=
  ∃ (A A' : Option Addr) (n c n' c' : Nat) (xs ys : List Cl), x = .returned (.tuple #[.slice A n c, .slice A' n' c']) ∧ n ≤ 16 ∧ n' ≤ 17 ∧ RdC w' A n xs ∧ RdC w' A' n' ys ∧ Below w.heap.size w w'
theorem DrawCallsMoved_any (A : Option Addr) (n c : Nat) (zs : List Int) (w : World) (hx : RdL uv w A n zs) (hz : ∀ z ∈ zs, 0 ≤ z ∧ z ≤ 255) (hc : n ≤ c) (hn : n ≤ 1048576) :
    Calls Try.prog 34 #[.slice A n c] w (TwoGot w) := by
  have HZ := Lib.hid hz; clear hz
  go_enter Try.func34, Try.ntmps34
  go_wp2_with fail
  refine (l20Open_any A n c zs _ hx HZ.out hc hn).mono ?_
  rintro x w1 ⟨rb, rfl, hrb, R1, b1⟩
  go_wp2_with fail
  refine (l20Asked_any w1 rb 0 9 R1 (by omega) (by omega) (by omega)).mono ?_
  rintro x w2 ⟨o, e, m, A2, n2, c2, xs, i, q, rfl, HB, hn2, O2, R2, G2⟩
  have B2 := drawn_below b1 b1.size hrb G2
  have S2 := ShAt.new w2 o e m
  have O3 := OwnM.alloc O2 (.cells #[.int .i64 o, .int .i64 e, .int .i64 m] 24)
  have B3 := bbox B2 B2.size (.cells #[.int .i64 o, .int .i64 e, .int .i64 m] 24)
  obtain ⟨s0, s1, s2, -⟩ := S2.cells
  have HLx := OwnC.len O3
  go_wp2_with fail
  refine (spec_CallMove o e m A2 n2 c2 xs i q _ (OwnC.rd O3) (OwnM.cap O3).1 (by omega)).mono ?_
  rintro x w3 ⟨A3, n3, c3, ys, b3, rfl, HP, O4, b4⟩
  have hn3 : n3 ≤ 17 := by
    have h1 := move_le o e m xs i q
    rw [HP.out] at h1
    have h2 := (OwnC.len O4).out
    have h3 := HLx.out
    simp at h1; omega
  clear s0 s1 s2
  go_wp2
  go_ret2
  exact ⟨A2, A3, n2, c2, n3, c3, xs, ys, rfl, hn2, hn3, (OwnC.rd O3).below b4 (Nat.le_refl _), OwnC.rd O4, bstep B3 b4⟩
end Go.Proofs.Ytcickfahpcmcdaa
