/- eqCall and eqCallS compare calls and lists of calls. Condition: at most 1048576 calls. -/
import Derived.Test.Ytldbbphpikdfdaa4c
import Derived.Deep.RegionWith
import Derived.Deep.RegionHeld3
namespace Go.Proofs.Ytldbbphpikdfdaa
open Go.RowKit
set_option linter.unusedSimpArgs false
set_option linter.unusedVariables false
theorem cl_ext {x y : Cl} (h1 : x.i = y.i) (h2 : x.o = y.o) (h3 : x.v = y.v) : x = y := by cases x; cases y; simp_all
theorem eqCall_any (x y : Cl) (w : World) : Calls Try.prog 45 #[cav x, cav y] w fun e w' => e = .returned (.bool (decide (x = y))) ∧ Below w.heap.size w w' := by
  have hb : Below w.heap.size w ((w.alloc (.cells #[.int .i64 x.i, .int .i64 x.o, .int .i64 x.v] 52)).alloc (.cells #[.int .i64 y.i, .int .i64 y.o, .int .i64 y.v] 52)) := (below_box w _).alloc (by simp) _
  by_cases h1 : x.i = y.i
  · by_cases h2 : x.o = y.o
    · by_cases h3 : x.v = y.v
      · have hxy := cl_ext h1 h2 h3
        subst hxy
        clear h1 h2 h3
        go_enter Try.func45, Try.ntmps45
        go_wp2
        go_ret
        exact ⟨ret_bool (by simp), hb⟩
      · have hz1 : (x.i != y.i) = false := by simp [h1]
        have hz2 : (x.o != y.o) = false := by simp [h2]
        have hz3 : (x.v != y.v) = true := by simp [h3]
        have H3 := Lib.hid h3; clear h1 h2 h3
        go_enter Try.func45, Try.ntmps45
        go_wp2
        go_ret
        exact ⟨ret_bool (by rw [decide_eq_false (fun e => H3.out (by rw [e]))]), hb⟩
    · have hz1 : (x.i != y.i) = false := by simp [h1]
      have hz2 : (x.o != y.o) = true := by simp [h2]
      have H3 := Lib.hid h2; clear h1 h2
      go_enter Try.func45, Try.ntmps45
      go_wp2
      go_ret
      exact ⟨ret_bool (by rw [decide_eq_false (fun e => H3.out (by rw [e]))]), hb⟩
  · have hz1 : (x.i != y.i) = true := by simp [h1]
    have H3 := Lib.hid h1; clear h1
    go_enter Try.func45, Try.ntmps45
    go_wp2
    go_ret
    exact ⟨ret_bool (by rw [decide_eq_false (fun e => H3.out (by rw [e]))]), hb⟩
theorem eqCallS_any (A A' : Option Addr) (n n' c c' : Nat) (xs ys : List Cl) (w : World) (hx : RdC w A n xs) (hy : RdC w A' n' ys) (hn : n ≤ 1048576) (hn' : n' ≤ 1048576) :
    Calls Try.prog 24 #[.slice A n c, .slice A' n' c'] w (RetM (xs = ys) w) := by
  have HL := hx.len
  have HL' := hy.len
  by_cases hne : n = n'
  · subst hne
    go_enter Try.func24, Try.ntmps24
    go_wp2
    go_loopg [5] n (fun g i wr => ∃ k : Nat, k ≤ n ∧ g = n - k ∧ i = .int .i64 k ∧ Hid (xs.take k = ys.take k) ∧ Below w.heap.size w wr)
    case atStart => exact ⟨0, Nat.zero_le _, rfl, rfl, rfl, Below.refl _ _⟩
    case round =>
      obtain ⟨k, hk, rfl, rfl, hall, hbel⟩ := hrel
      by_cases hlt : k < n
      · obtain ⟨b, off, x, rfl, HX, g0, g1, g2⟩ := RdC.at (hx.below hbel (Nat.le_refl _)) hlt
        obtain ⟨b', off', y, rfl, HY, g0', g1', g2'⟩ := RdC.at (hy.below hbel (Nat.le_refl _)) hlt
        by_cases hxy : x = y
        · subst hxy
          go_wp2
          go_region_with (go_at_call 45; refine (eqCall_any _ _ _).mono ?_; rintro e w1 ⟨rfl, b1⟩)
          all_goals
            go_wp2
            go_roundg (n - (k + 1))
            case rel => exact ⟨k + 1, by omega, rfl, by go_num, take_eq_snoc hall.out HX.out HY.out, bstep hbel.drew b1⟩
            case measure => omega
        · have HN : Hid (decide (x = y) = false) := decide_eq_false hxy
          go_wp2
          go_region_with (go_at_call 45; refine (eqCall_any _ _ _).mono ?_; rintro e w1 ⟨rfl, b1⟩; rw [HN.out])
          all_goals
            go_wp2
            go_ret
            exact RetM.no (ne_of_at HX.out HY.out hxy) (bstep hbel.drew b1)
      · go_wp2
        go_ret
        exact RetM.yes (eq_of_take hall.out (by rw [HL.out]; omega) (by rw [HL'.out]; omega)) hbel
  · go_enter Try.func24, Try.ntmps24
    go_wp2
    go_ret
    exact RetM.no (fun e => hne (by rw [← HL.out, ← HL'.out, e])) (Below.refl _ _)
end Go.Proofs.Ytldbbphpikdfdaa
