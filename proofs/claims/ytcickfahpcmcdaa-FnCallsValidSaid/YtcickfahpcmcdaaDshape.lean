/- l20Shape draws some shape with small numbers. Condition: fewer than 1000000 picks so far. -/
import Derived.Test.YtcickfahpcmcdaaDraw
import Derived.Test.Ytcickfahpcmcdaa4s
import Derived.Deep.RegionHeld3
import Derived.Deep.DeepCutAuto
namespace Go.Proofs.Ytcickfahpcmcdaa
open Go.RowKit
set_option linter.unusedSimpArgs false
set_option linter.unusedVariables false
theorem lit3 (a b c : Int) (r : Nat) (h : r < 3) : ∃ y, [Value.int .i64 a, .int .i64 b, .int .i64 c][r]? = some (.int .i64 y) ∧ Hid (y ∈ [a, b, c]) := by
  rcases (by omega : r = 0 ∨ r = 1 ∨ r = 2) with rfl | rfl | rfl
  · exact ⟨a, rfl, by show a ∈ [a, b, c]; simp⟩
  · exact ⟨b, rfl, by show b ∈ [a, b, c]; simp⟩
  · exact ⟨c, rfl, by show c ∈ [a, b, c]; simp⟩
theorem shape_bd {r2 r3 : Nat} {y : Int} (h : y ∈ [1 + (r2 : Int), IntKind.i64.wrap (IntKind.i64.wrap (2 * (1 + (r2 : Int))) - 1), IntKind.i64.wrap (1 + (r3 : Int))]) (h2 : r2 < 3) (h3 : r3 < 5) : 0 ≤ y ∧ y ≤ 6 := by
  simp only [IntKind.wrap_i64, List.mem_cons, List.not_mem_nil, or_false] at h
  omega
theorem shape_meet {w w4 : World} {g rb P : Nat} {a b y : Int} (s4 : ShAt w4 g a b 0) (R4 : Rdr w4 rb (P + 1 + 1 + 1 + 1)) (G : w.grownBy w4 (some rb)) (hg : w.heap.size ≤ g) (hrb : rb < g) (hy : 0 ≤ y ∧ y ≤ 6) :
    ∃ m : Int, 0 ≤ m ∧ m ≤ 6 ∧ ShAt (w4.setCell ⟨g, 2, none⟩ (.int .i64 y)) g a b m ∧ Rdr (w4.setCell ⟨g, 2, none⟩ (.int .i64 y)) rb (P + 4) ∧ w.grownBy (w4.setCell ⟨g, 2, none⟩ (.int .i64 y)) (some rb) := by
  refine ⟨y, hy.1, hy.2, ?_, R4.set _ _ hrb, gset G (.inr hg) _⟩
  unfold ShAt at s4 ⊢
  rw [heap_setCell_same w4 g 2 _ _ _ s4]; rfl
theorem shape_meet' {w w4 : World} {g rb P : Nat} {a b y : Int} (s4 : ShAt w4 g a b 0) (R4 : Rdr w4 rb (P + 1 + 1 + 1 + 1)) (G : w.grownBy w4 (some rb)) (hg : w.heap.size ≤ g) (hrb : rb < g) (hy : 0 ≤ y ∧ y ≤ 6) (o : Obj) :
    ∃ m : Int, 0 ≤ m ∧ m ≤ 6 ∧ ShAt ((w4.setCell ⟨g, 2, none⟩ (.int .i64 y)).alloc o) g a b m ∧ Rdr ((w4.setCell ⟨g, 2, none⟩ (.int .i64 y)).alloc o) rb (P + 4) ∧ w.grownBy ((w4.setCell ⟨g, 2, none⟩ (.int .i64 y)).alloc o) (some rb) := by
  obtain ⟨m, h1, h2, h3, h4, h5⟩ := shape_meet s4 R4 G hg hrb hy
  exact ⟨m, h1, h2, h3.alloc o, h4.alloc o, galloc h5 o⟩
def ShapeDrawn (w : World) (rb P : Nat) (x : Ending) (w' : World) : Prop :=
  ∃ o e m : Int, x = .returned (shv o e m) ∧ Hid (0 ≤ o ∧ o ≤ 5 ∧ 0 ≤ e ∧ e ≤ 4 ∧ 0 ≤ m ∧ m ≤ 6) ∧ Rdr w' rb (P + 7) ∧ w.grownBy w' (some rb)

theorem shape_fin {w wz : World} {rb P Q : Nat} {Z : Obj} {o e m : Int} (hb : 0 ≤ o ∧ o ≤ 5 ∧ 0 ≤ e ∧ e ≤ 4 ∧ 0 ≤ m ∧ m ≤ 6) (R : Rdr wz rb Q) (G : (w.alloc Z).grownBy wz (some rb)) (hlt : rb < w.heap.size) {u0 u1 u2 : Value} (hQ : Q ≤ P + 7 := by omega) :
    ShapeDrawn w rb P (.returned (shv o e m)) (((wz.setCell ⟨w.heap.size, 0, none⟩ u0).setCell ⟨w.heap.size, 1, none⟩ u1).setCell ⟨w.heap.size, 2, none⟩ u2) :=
  ⟨o, e, m, rfl, hb, (((R.set _ _ hlt).set _ _ hlt).set _ _ hlt).more hQ, gset (gset (gset (gtrans (World.grownBy_alloc w Z (some rb)) G) (.inr (Nat.le_refl _)) _) (.inr (Nat.le_refl _)) _) (.inr (Nat.le_refl _)) _⟩
set_option maxHeartbeats 2000000 in
theorem l20Shape_any (w : World) (rb P : Nat) (n : Int) (hr : Rdr w rb P) (hP : P ≤ 900000) (hn : n ≤ 1000000) (hn' : 1 ≤ n) :
    Calls Try.prog 65 #[.pointer (some ⟨rb, 0, none⟩), .int .i64 n] w (ShapeDrawn w rb P) := by
  have hlt := hr.lt
  go_enter Try.func65, Try.ntmps65
  go_wp2_with fail
  refine (pick_n 4 (hr.alloc _) (by omega) (by omega) (by omega)).mono ?_
  rintro x w1 ⟨r1, rfl, H1, R1, G1⟩
  have h1 := H1.out
  go_wp2_with fail
  refine (pick_n 3 R1 (by omega) (by omega) (by omega)).mono ?_
  rintro x w2 ⟨r2, rfl, H2, R2, G2⟩
  have h2 := H2.out
  go_wp2_with fail
  have hsh := ShAt.new w2 (1 + (r1 : Int)) (1 + (r2 : Int)) 0
  have R2' := R2.alloc (.cells #[.int .i64 (1 + (r1 : Int)), .int .i64 (1 + (r2 : Int)), .int .i64 0] 24)
  have hlt2 := R2.lt
  have hshd := hsh.drew
  have g2 := gtrans G1 G2
  have hw2 := g2.size
  have hw2' : w.heap.size < w2.heap.size := by simp at hw2; omega
  have c1 := hsh.cells.2.1
  have hne : w2.heap.size ≠ rb := by omega
  go_cut [5] (fun s5 wx => s5 = .pointer (some ⟨w2.heap.size, 0, none⟩) ∧ ∃ m : Int, 0 ≤ m ∧ m ≤ 6 ∧ ShAt wx w2.heap.size (1 + (r1 : Int)) (1 + (r2 : Int)) m ∧ Rdr wx rb (P + 4) ∧ (w.alloc (.cells #[.int .i64 0, .int .i64 0, .int .i64 0] 24)).grownBy wx (some rb))
  case first =>
    go_region_with (first
        | (go_at_call 68; (with_reducible refine (pick_n 5 (by first | assumption | exact Rdr.drew (by assumption)) (by omega) (by omega) (by omega)).mono ?_); rintro x w3 ⟨r3, rfl, H3, R3, G3⟩; have h3 := H3.out; have s3 := hshd.grown G3 (by simp; omega); obtain ⟨-, k3, -⟩ := s3.cells; have g3 := gtrans (galloc g2 _) (gundrew G3))
        | (go_at_call 68; (with_reducible refine (pick_lit (emb := iv) [1 + (r2 : Int), IntKind.i64.wrap (IntKind.i64.wrap (2 * (1 + (r2 : Int))) - 1), IntKind.i64.wrap (1 + (r3 : Int))] 3 ?_ ?_ ?_ ?_ (by first | assumption | exact Rdr.drew (by assumption)) (by omega)).mono ?_); rfl; rfl; simp; simp; rintro x w4 ⟨r4, y4, rfl, H4, h4, k4, R4, G4⟩; have h4' : (0 : Int) ≤ (r4 : Int) := Int.natCast_nonneg _; have g4 := gtrans (galloc g3 _) G4; have y4b := shape_bd H4.out (by omega) (by omega); have s4 := (s3.alloc _).grown G4 (by simp; omega); obtain ⟨-, k4b, k4c, -, -, f4⟩ := s4.cells; have hz4 := s4.lt)
        | (go_at_call 68; (with_reducible refine (pick_n 3 (by assumption) (by omega) (by omega) (by omega)).mono ?_); rintro x w4 ⟨r4, rfl, H4, R4, G4⟩; have h4 := H4.out; have h4' : (0 : Int) ≤ (r4 : Int) := Int.natCast_nonneg _; obtain ⟨y4, hy4, Hy4⟩ := lit3 (1 + (r2 : Int)) (IntKind.i64.wrap (IntKind.i64.wrap (2 * (1 + (r2 : Int))) - 1)) (IntKind.i64.wrap (1 + (r3 : Int))) r4 (by omega); have g4 := gtrans g3 G4; have y4b := shape_bd Hy4.out (by omega) (by omega); have s4 := s3.grown G4 (by simp; omega); obtain ⟨-, k4b, k4c, -, -, f4⟩ := s4.cells; have hz4 := s4.lt))
    all_goals
      go_wp2_with fail
      go_meet
      first
        | exact ⟨rfl, shape_meet s4 R4 g4 hw2 hlt2 y4b⟩
        | exact ⟨rfl, shape_meet' s4 R4 g4 hw2 hlt2 y4b _⟩
  case rest =>
    obtain ⟨rfl, m, hm0, hm1, s5, R5, G5⟩ := hcut
    have z5 : ShAt wc w.heap.size 0 0 0 := (ShAt.new w 0 0 0).grown G5 (by simp; omega)
    clear c1
    go_wp2_with fail
    refine (odd_le n R5 (by omega) hn hn').mono ?_
    rintro x w6 ⟨b6, rfl, R6, G6⟩
    have s6 := s5.grown G6 (by simp; omega)
    have z6 := z5.grown G6 (by simp; omega)
    have g6 := gtrans G5 G6
    cases b6 with
    | false =>
      obtain ⟨c0, c1, c2, f0, f1, f2⟩ := s6.cells
      obtain ⟨d0, d1, d2, e0, e1, e2⟩ := z6.cells
      go_wp2
      refine bodyPost_ret (v := shv (1 + (r1 : Int)) (1 + (r2 : Int)) m) (by simp [results, Try.results65, go_sem, d0, d1, d2]) rfl ?_
      exact shape_fin (by omega) R6 g6 hlt
    | true =>
      go_wp2_with fail
      refine (pick_n 3 R6 (by omega) (by omega) (by omega)).mono ?_
      rintro x w7 ⟨r7, rfl, H7, R7, G7⟩
      have h7 := H7.out
      have s7 := s6.grown G7 (by simp; omega)
      have z7 := z6.grown G7 (by simp; omega)
      have g7 := gtrans g6 G7
      rcases (by omega : r7 = 0 ∨ r7 = 1 ∨ r7 = 2) with rfl | rfl | rfl
      · go_wp2_with fail
        refine (pick_lit (emb := iv) [0, 5] 2 rfl rfl (by simp) (by simp) R7 (by omega)).mono ?_
        rintro x w8 ⟨r8, y8, rfl, H8, h8, k8, R8, G8⟩
        have hy8 : 0 ≤ y8 ∧ y8 ≤ 5 := by have := H8.out; simp at this; omega
        have s8 := (s7.alloc _).grown G8 (by simp; omega)
        have z8 := (z7.alloc _).grown G8 (by simp; omega)
        have g8 := gtrans (galloc g7 _) G8
        have hz8 := s8.lt
        have hz7 := s7.lt
        have hz7' := z7.lt
        have hr8 : (0 : Int) ≤ (r8 : Int) := Int.natCast_nonneg _
        obtain ⟨c0, c1, c2, f0, f1, f2⟩ := s8.cells
        obtain ⟨d0, d1, d2, e0, e1, e2⟩ := z8.cells
        go_wp2
        refine bodyPost_ret (v := shv y8 (1 + (r2 : Int)) m) (by simp [results, Try.results65, go_sem, d0, d1, d2]) rfl ?_
        exact shape_fin (by omega) (R8.set ⟨w2.heap.size, _, none⟩ _ hlt2) (gset g8 (.inr hw2) _) hlt
      · go_wp2_with fail
        refine (pick_lit (emb := iv) [0, 4] 2 rfl rfl (by simp) (by simp) R7 (by omega)).mono ?_
        rintro x w8 ⟨r8, y8, rfl, H8, h8, k8, R8, G8⟩
        have hy8 : 0 ≤ y8 ∧ y8 ≤ 4 := by have := H8.out; simp at this; omega
        have s8 := (s7.alloc _).grown G8 (by simp; omega)
        have z8 := (z7.alloc _).grown G8 (by simp; omega)
        have g8 := gtrans (galloc g7 _) G8
        have hz8 := s8.lt
        have hz7 := s7.lt
        have hz7' := z7.lt
        have hr8 : (0 : Int) ≤ (r8 : Int) := Int.natCast_nonneg _
        obtain ⟨c0, c1, c2, f0, f1, f2⟩ := s8.cells
        obtain ⟨d0, d1, d2, e0, e1, e2⟩ := z8.cells
        go_wp2
        refine bodyPost_ret (v := shv (1 + (r1 : Int)) y8 m) (by simp [results, Try.results65, go_sem, d0, d1, d2]) rfl ?_
        exact shape_fin (by omega) (R8.set ⟨w2.heap.size, _, none⟩ _ hlt2) (gset g8 (.inr hw2) _) hlt
      · go_wp2_with fail
        refine (pick_lit (emb := iv) [0, 6] 2 rfl rfl (by simp) (by simp) R7 (by omega)).mono ?_
        rintro x w8 ⟨r8, y8, rfl, H8, h8, k8, R8, G8⟩
        have hy8 : 0 ≤ y8 ∧ y8 ≤ 6 := by have := H8.out; simp at this; omega
        have s8 := (s7.alloc _).grown G8 (by simp; omega)
        have z8 := (z7.alloc _).grown G8 (by simp; omega)
        have g8 := gtrans (galloc g7 _) G8
        have hz8 := s8.lt
        have hz7 := s7.lt
        have hz7' := z7.lt
        have hr8 : (0 : Int) ≤ (r8 : Int) := Int.natCast_nonneg _
        obtain ⟨c0, c1, c2, f0, f1, f2⟩ := s8.cells
        obtain ⟨d0, d1, d2, e0, e1, e2⟩ := z8.cells
        go_wp2
        refine bodyPost_ret (v := shv (1 + (r1 : Int)) (1 + (r2 : Int)) y8) (by simp [results, Try.results65, go_sem, d0, d1, d2]) rfl ?_
        exact shape_fin (by omega) (R8.set ⟨w2.heap.size, _, none⟩ _ hlt2) (gset g8 (.inr hw2) _) hlt
end Go.Proofs.Ytcickfahpcmcdaa
