/- What DrawRouteAll and DrawCallDrop hand over. Condition: a code of at most 1048576 bytes. -/
import Derived.Test.YtcickfahpcmcdaaAsk2
import Derived.Test.YtcickfahpcmcdaaDperm
import Derived.Deep.RegionHeld3
namespace Go.Proofs.Ytcickfahpcmcdaa
open Go.RowKit
set_option linter.unusedSimpArgs false
set_option linter.unusedVariables false
def RouteGot (w : World) (x : Ending) (w' : World) : Prop :=
  ∃ (o e m : Int) (A : Option Addr) (n c : Nat) (xs : List Int), x = .returned (.tuple #[shv o e m, .slice A n c]) ∧ Hid (0 ≤ o ∧ o ≤ 5 ∧ 0 ≤ e ∧ e ≤ 4 ∧ 0 ≤ m ∧ m ≤ 6) ∧ n ≤ 12 ∧ OwnL iv w' w.heap.size 3 A n c xs ∧ Below w.heap.size w w'
theorem route_fin {w wz : World} {o e m : Int} {A : Option Addr} {n c : Nat} {xs : List Int} {B : Nat} {u0 u1 u2 : Value} (hb : 0 ≤ o ∧ o ≤ 5 ∧ 0 ≤ e ∧ e ≤ 4 ∧ 0 ≤ m ∧ m ≤ 6) (hn : n ≤ 12) (O : OwnL iv wz B 3 A n c xs) (hB : w.heap.size < B) (b : Below w.heap.size w wz) :
    RouteGot w (.returned (.tuple #[shv o e m, .slice A n c])) (((wz.setCell ⟨w.heap.size, 0, none⟩ u0).setCell ⟨w.heap.size, 1, none⟩ u1).setCell ⟨w.heap.size, 2, none⟩ u2) := by
  have hA : blk A ≠ some w.heap.size := fun hh => by have := (O.lt hh).1; omega
  exact ⟨o, e, m, A, n, c, xs, rfl, hb, hn, OwnL.mono (OwnL.far (OwnL.far (OwnL.far O _ _ hA) _ _ hA) _ _ hA) (by omega), ((b.setCell (Nat.le_refl _) _).setCell (Nat.le_refl _) _).setCell (Nat.le_refl _) _⟩
set_option maxHeartbeats 4000000 in
theorem DrawRouteAll_any (A : Option Addr) (n c : Nat) (zs : List Int) (w : World) (hx : RdL uv w A n zs) (hz : ∀ z ∈ zs, 0 ≤ z ∧ z ≤ 255) (hc : n ≤ c) (hn : n ≤ 1048576) :
    Calls Try.prog 43 #[.slice A n c] w (RouteGot w) := by
  have HZ := Lib.hid hz; clear hz
  have b0 := below_box w (.cells #[.int .i64 0, .int .i64 0, .int .i64 0] 24)
  have Z0 := ShAt.new w 0 0 0
  have hx0 := hx.below b0 (Nat.le_refl _)
  go_enter Try.func43, Try.ntmps43
  go_wp2_with fail
  refine (l20Open_any A n c zs _ hx0 HZ.out hc hn).mono ?_
  rintro x w1 ⟨rb, rfl, hrb, R1, b1⟩
  have Z1 := Z0.below b1
  have B1 := bstep b0 b1
  go_wp2_with fail
  refine (l20Shape_any w1 rb 0 12 R1 (by omega) (by omega) (by omega)).mono ?_
  rintro x w2 ⟨o, e, m, rfl, HB, R2, G2⟩
  obtain ⟨ho0, ho1, he0, he1, hm0, hm1⟩ := HB.out
  obtain ⟨hp0, hp1⟩ := mul_bd ho0 ho1 he0 he1
  have hrb' : w.heap.size < rb := by simp at hrb; omega
  have Z2 := Z1.grown G2 (by simp; omega)
  have B2 := drawn_below B1 B1.size (by omega) G2
  have S2 := ShAt.new w2 o e m
  have R3 := R2.alloc (.cells #[.int .i64 o, .int .i64 e, .int .i64 m] 24)
  have Z3 := Z2.alloc (.cells #[.int .i64 o, .int .i64 e, .int .i64 m] 24)
  have B3 := bbox B2 B2.size (.cells #[.int .i64 o, .int .i64 e, .int .i64 m] 24)
  obtain ⟨s0, s1, s2, -⟩ := S2.cells
  have hmax : ∀ (ts : Array TypeId) (t : TypeId) (W : World), (Builtin.max_ ts t #[.int .i64 (o * e), .int .i64 0]).run Try.prog W = .ok (.int .i64 (o * e)) W := fun ts t W => by
    rw [run_max_int2]; congr 2; split <;> omega
  obtain ⟨N, HN, hN12⟩ : ∃ N : Nat, (o * e) % 13 = (N : Int) ∧ N ≤ 12 := ⟨((o * e) % 13).toNat, by omega, by omega⟩
  have hrb3 := R3.lt
  have hz2 := Z2.lt
  go_wp2_with fail
  refine (l20Perm_any _ rb _ N R3 (by omega) (by omega)).mono ?_
  rintro x w4 ⟨g4, c4, xs, rfl, O4, R4, G4⟩
  have S4 := S2.grown G4 (by have := R2.lt; simp; omega)
  have Z4 := Z3.grown G4 (by simp; omega)
  have hz4 := S4.lt
  have B4 := drawn_below B3 B3.size (by omega) G4
  have hb4 := O4.cap
  have hg4 := O4.lt (g := g4) rfl
  simp at hg4
  clear s0 s1 s2 hmax HN
  go_wp2_with fail
  refine (odd_le 12 R4 (by omega) (by omega) (by omega)).mono ?_
  rintro x w5 ⟨b5, rfl, R5, G5⟩
  have S5 := S4.grown G5 (by have := R2.lt; simp; omega)
  have Z5 := Z4.grown G5 (by simp; omega)
  have O5 := O4.grown G5 (by intro g hh hb; injection hh with hh; rw [blk_some] at hb; injection hb with hb; have := R2.lt; omega)
  have B5 := drawn_below B4 B4.size (by omega) G5
  have O5' : OwnL iv w5 (w2.heap.size + 1) 3 (some ⟨g4, 0, none⟩) N c4 xs := by have := O5; rwa [show (w2.alloc (Obj.cells #[.int .i64 o, .int .i64 e, .int .i64 m] 24)).heap.size = w2.heap.size + 1 by simp] at this
  clear O4 O5
  obtain ⟨s0, s1, s2, f0, f1, f2⟩ := S5.cells
  obtain ⟨d0, d1, d2, e0, e1, e2⟩ := Z5.cells
  have hzz := Z5.lt
  cases b5 with
  | false =>
    go_wp2
    refine bodyPost_ret (v := .tuple #[shv o e m, .slice (some ⟨g4, 0, none⟩) N c4]) (by simp [results, Try.results43, go_sem, d0, d1, d2]) rfl ?_
    exact route_fin HB.out (by omega) O5' (by omega) B5
  | true =>
    by_cases hN0 : N = 0
    · subst hN0
      go_wp2
      refine bodyPost_ret (v := .tuple #[shv o e m, .slice (some ⟨g4, 0, none⟩) 0 c4]) (by simp [results, Try.results43, go_sem, d0, d1, d2]) rfl ?_
      exact route_fin HB.out (by omega) O5' (by omega) B5
    · have hNp : 0 < N := by omega
      obtain ⟨ga, ya, hA, hBa, hga, HYa, gca, gfa⟩ := O5'.at (k := N - 1) (by omega)
      injection hA with hA; injection hA with hA; subst hA
      obtain ⟨gb, yb, hA, hBb, hgb, HYb, gcb, gfb⟩ := O5'.at (k := 0) (by omega)
      injection hA with hA; injection hA with hA; subst hA
      have hn1 : ((N : Int) - 1).toNat = N - 1 := by omega
      have O6 := OwnL.set O5' 0 ya
      go_wp2
      refine bodyPost_ret (v := .tuple #[shv o e m, .slice (some ⟨g4, 0, none⟩) N c4]) (by simp [results, Try.results43, go_sem, d0, d1, d2]) rfl ?_
      exact route_fin HB.out (by omega) O6 (by omega) (B5.setCell (by show w.heap.size ≤ g4; omega) _)
end Go.Proofs.Ytcickfahpcmcdaa
