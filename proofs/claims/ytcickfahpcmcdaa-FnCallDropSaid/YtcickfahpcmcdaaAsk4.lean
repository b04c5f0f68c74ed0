/- What DrawCallDrop hands over. Condition: a code of at most 1048576 bytes. -/
import Derived.Test.YtcickfahpcmcdaaAsk2
namespace Go.Proofs.Ytcickfahpcmcdaa
open Go.RowKit
set_option linter.unusedSimpArgs false
set_option linter.unusedVariables false
def DropGot (w : World) (x : Ending) (w' : World) : Prop :=
  ∃ (o e m : Int) (A : Option Addr) (n c : Nat) (xs : List Cl) (i : Int), x = .returned (.tuple #[shv o e m, .slice A n c, .int .i64 i]) ∧ Hid (0 ≤ o ∧ o ≤ 5 ∧ 0 ≤ e ∧ e ≤ 4 ∧ 0 ≤ m ∧ m ≤ 6) ∧ n ≤ 16 ∧ OwnC w' w.heap.size 36 A n c xs ∧ Below w.heap.size w w'
theorem drop_fin {w wz : World} {o e m i : Int} {A : Option Addr} {n c : Nat} {xs : List Cl} {B : Nat} {u0 u1 u2 : Value} (hb : 0 ≤ o ∧ o ≤ 5 ∧ 0 ≤ e ∧ e ≤ 4 ∧ 0 ≤ m ∧ m ≤ 6) (hn : n ≤ 16) (O : OwnC wz B 36 A n c xs) (hB : w.heap.size < B) (b : Below w.heap.size w wz) :
    DropGot w (.returned (.tuple #[shv o e m, .slice A n c, .int .i64 i])) (((wz.setCell ⟨w.heap.size, 0, none⟩ u0).setCell ⟨w.heap.size, 1, none⟩ u1).setCell ⟨w.heap.size, 2, none⟩ u2) := by
  have hA : blk A ≠ some w.heap.size := fun hh => by have := (OwnM.lt O hh).1; omega
  exact ⟨o, e, m, A, n, c, xs, i, rfl, hb, hn, OwnM.mono (OwnM.far (OwnM.far (OwnM.far O _ _ hA) _ _ hA) _ _ hA) (by omega), ((b.setCell (Nat.le_refl _) _).setCell (Nat.le_refl _) _).setCell (Nat.le_refl _) _⟩
def clI (xs : List Cl) (k : Nat) : Int := match xs[k]? with
  | some c => c.i
  | none => 0
theorem clI_all {w : World} {B g n c : Nat} {e : TypeId} {xs : List Cl} (h : OwnC w B e (some ⟨g, 0, none⟩) n c xs) : ∀ k : Nat, k < n → w.cell? ⟨g, k * 3, none⟩ = some (.int .i64 (clI xs k)) := fun k hk => by
  obtain ⟨g', y, hA, -, -, HY, h0, -⟩ := OwnC.at h hk
  injection hA with hA; injection hA with hA; subst hA
  rw [h0]; unfold clI; rw [HY.out]
set_option maxHeartbeats 2000000 in
theorem DrawCallDrop_any (A : Option Addr) (n c : Nat) (zs : List Int) (w : World) (hx : RdL uv w A n zs) (hz : ∀ z ∈ zs, 0 ≤ z ∧ z ≤ 255) (hc : n ≤ c) (hn : n ≤ 1048576) :
    Calls Try.prog 36 #[.slice A n c] w (DropGot w) := by
  have HZ := Lib.hid hz; clear hz
  have b0 := below_box w (.cells #[.int .i64 0, .int .i64 0, .int .i64 0] 24)
  have Z0 := ShAt.new w 0 0 0
  have hx0 := hx.below b0 (Nat.le_refl _)
  go_enter Try.func36, Try.ntmps36
  go_wp2_with fail
  refine (l20Open_any A n c zs _ hx0 HZ.out hc hn).mono ?_
  rintro x w1 ⟨rb, rfl, hrb, R1, b1⟩
  have Z1 := Z0.below b1
  have B1 := bstep b0 b1
  go_wp2_with fail
  refine (l20Calls_any w1 rb 0 9 R1 (by omega) (by omega) (by omega)).mono ?_
  rintro x w2 ⟨o, e, m, A2, n2, c2, xs, rfl, HB, hn2, O2, R2, G2⟩
  have hrb' : w.heap.size < rb := by simp at hrb; omega
  have hs1 := b1.size
  simp at hs1
  have Z2 := Z1.grown G2 (by simp; omega)
  have B2 := drawn_below B1 B1.size (by omega) G2
  have S3 := ShAt.new w2 o e m
  have R3 := R2.alloc (.cells #[.int .i64 o, .int .i64 e, .int .i64 m] 24)
  have Z3 := Z2.alloc (.cells #[.int .i64 o, .int .i64 e, .int .i64 m] 24)
  have B3 := bbox B2 B2.size (.cells #[.int .i64 o, .int .i64 e, .int .i64 m] 24)
  have O3 := OwnM.alloc O2 (.cells #[.int .i64 o, .int .i64 e, .int .i64 m] 24)
  have hrl1 := R1.lt
  have hrl2 := R2.lt
  have hz2 := Z2.lt
  have hs2 := G2.size
  by_cases h0 : n2 = 0
  · subst h0
    obtain ⟨s0, s1, s2, -⟩ := S3.cells
    obtain ⟨d0, d1, d2, e0, e1, e2⟩ := Z3.cells
    have hz3 := Z3.lt
    go_wp2
    go_region_held3 (fun w' => w'.cell? ⟨w2.heap.size, 0, none⟩ = some (.int .i64 o) ∧ w'.cell? ⟨w2.heap.size, 1, none⟩ = some (.int .i64 e) ∧ w'.cell? ⟨w2.heap.size, 2, none⟩ = some (.int .i64 m))
      (first | go_keep | exact ⟨by assumption, by assumption, by assumption⟩ | (refine ⟨?_, ?_, ?_⟩ <;> (rw [World.cell?_setCell_other _ _ _ _ (fun h => by injection h with h; omega), World.cell?_setCell_other _ _ _ _ (fun h => by injection h with h; omega), World.cell?_setCell_other _ _ _ _ (fun h => by injection h with h; omega)]; assumption)))
      (first | (go_at_call 68; (with_reducible refine (pick_n 13 R3.drew (by omega) (by omega) (by omega)).mono ?_); rintro x w6 ⟨r6, rfl, H6, R6, G6⟩; have S6 := S3.drew.grown G6 (by simp; omega); have Z6 := Z3.drew.grown G6 (by simp; omega); have O6 := OwnM.grown (ownm_drew O3) G6 (fun g hh hb => by have h1 := (OwnM.lt O3 hb).1; injection hh with hh; omega); have B6 := drawn_below B3 B3.size (by omega) (gundrew G6); obtain ⟨s0', s1', s2', -⟩ := S6.cells; obtain ⟨d0', d1', d2', e0', e1', e2'⟩ := Z6.cells))
    go_wp2
    refine bodyPost_ret (v := .tuple #[shv o e m, .slice A2 0 c2, .int .i64 (IntKind.i64.wrap ((r6 : Int) - 1))]) (by simp [results, Try.results36, go_sem, d0', d1', d2']) rfl ?_
    exact drop_fin HB.out (by omega) O6 (by omega) B6
  · have hpos : (0 : Int) < (n2 : Int) := by omega
    have hposn : 0 < n2 := by omega
    go_wp2_with fail
    refine (pick_n 3 R3 (by omega) (by omega) (by omega)).mono ?_
    rintro x w4 ⟨r4, rfl, H4, R4, G4⟩
    have S4 := S3.grown G4 (by simp; omega)
    have Z4 := Z3.grown G4 (by simp; omega)
    have O4 := OwnM.grown O3 G4 (fun g hh hb => by have h1 := (OwnM.lt O3 hb).1; injection hh with hh; omega)
    have B4 := drawn_below B3 B3.size (by omega) G4
    by_cases h4 : r4 = 0
    · subst h4
      obtain ⟨s0, s1, s2, -⟩ := S4.cells
      obtain ⟨d0, d1, d2, e0, e1, e2⟩ := Z4.cells
      have hz4 := Z4.lt
      go_wp2
      go_region_held3 (fun w' => w'.cell? ⟨w2.heap.size, 0, none⟩ = some (.int .i64 o) ∧ w'.cell? ⟨w2.heap.size, 1, none⟩ = some (.int .i64 e) ∧ w'.cell? ⟨w2.heap.size, 2, none⟩ = some (.int .i64 m))
        (first | go_keep | exact ⟨by assumption, by assumption, by assumption⟩ | (refine ⟨?_, ?_, ?_⟩ <;> (rw [World.cell?_setCell_other _ _ _ _ (fun h => by injection h with h; omega), World.cell?_setCell_other _ _ _ _ (fun h => by injection h with h; omega), World.cell?_setCell_other _ _ _ _ (fun h => by injection h with h; omega)]; assumption)))
        (first | (go_at_call 68; (with_reducible refine (pick_n 13 R4.drew (by omega) (by omega) (by omega)).mono ?_); rintro x w6 ⟨r6, rfl, H6, R6, G6⟩; have S6 := S4.drew.grown G6 (by simp; omega); have Z6 := Z4.drew.grown G6 (by simp; omega); have O6 := OwnM.grown (ownm_drew O4) G6 (fun g hh hb => by have h1 := (OwnM.lt O4 hb).1; injection hh with hh; omega); have B6 := drawn_below B4 B4.size (by omega) (gundrew G6); obtain ⟨s0', s1', s2', -⟩ := S6.cells; obtain ⟨d0', d1', d2', e0', e1', e2'⟩ := Z6.cells))
      go_wp2
      refine bodyPost_ret (v := .tuple #[shv o e m, .slice A2 n2 c2, .int .i64 (IntKind.i64.wrap ((r6 : Int) - 1))]) (by simp [results, Try.results36, go_sem, d0', d1', d2']) rfl ?_
      exact drop_fin HB.out hn2 O6 (by omega) B6
    · have hp4 : (0 : Int) < (r4 : Int) := by omega
      obtain ⟨gc, yc, hAc, hBc, hgc, HYc, c0', c1', c2', cf'⟩ := OwnC.at O4 (k := 0) (by omega)
      subst hAc
      clear HYc c0' c1' c2' cf'
      have hC4 := clI_all O4
      have hC4d := clI_all (ownm_drew O4)
      obtain ⟨sd0, sd1, sd2, -⟩ := S4.drew.cells
      obtain ⟨s0, s1, s2, -⟩ := S4.cells
      obtain ⟨d0, d1, d2, e0, e1, e2⟩ := Z4.cells
      have hz4 := Z4.lt
      go_wp2
      go_region_held3 (fun w' => w'.cell? ⟨w2.heap.size, 0, none⟩ = some (.int .i64 o) ∧ w'.cell? ⟨w2.heap.size, 1, none⟩ = some (.int .i64 e) ∧ w'.cell? ⟨w2.heap.size, 2, none⟩ = some (.int .i64 m) ∧ ∀ k : Nat, k < n2 → w'.cell? ⟨gc, k * 3, none⟩ = some (.int .i64 (clI xs k)))
        (first | exact ⟨sd0, sd1, sd2, clI_all (ownm_drew O4)⟩ | exact ⟨s0', s1', s2', clI_all O6⟩ | (refine ⟨?_, ?_, ?_, ?_⟩ <;> first | exact clI_all (ownm_drew O4) | exact clI_all O6 | assumption) | (refine ⟨?_, ?_, ?_, fun k hk => ?_⟩ <;> (rw [World.cell?_setCell_other _ _ _ _ (fun h => by injection h with h; omega), World.cell?_setCell_other _ _ _ _ (fun h => by injection h with h; omega), World.cell?_setCell_other _ _ _ _ (fun h => by injection h with h; omega)]; first | assumption | exact hC6 k hk)) | go_keep)
        (first | (go_at_call 68; (with_reducible refine (pick_n n2 R4.drew (by omega) (by omega) (by omega)).mono ?_); rintro x w6 ⟨r6, rfl, H6, R6, G6⟩; have S6 := S4.drew.grown G6 (by simp; omega); have Z6 := Z4.drew.grown G6 (by simp; omega); have O6 := OwnM.grown (ownm_drew O4) G6 (fun g hh hb => by have h1 := (OwnM.lt O4 hb).1; injection hh with hh; omega); have B6 := drawn_below B4 B4.size (by omega) (gundrew G6); obtain ⟨s0', s1', s2', -⟩ := S6.cells; obtain ⟨d0', d1', d2', e0', e1', e2'⟩ := Z6.cells; have h6 := H6.out; have hC6 := clI_all O6; have h6n : r6 < n2 := (by omega)))
      go_wp2
      refine bodyPost_ret (v := .tuple #[shv o e m, .slice (some ⟨gc, 0, none⟩) n2 c2, .int .i64 (clI xs r6)]) (by simp [results, Try.results36, go_sem, d0', d1', d2']) rfl ?_
      exact drop_fin HB.out hn2 O6 (by omega) B6
end Go.Proofs.Ytcickfahpcmcdaa
