/- RoutesValid of the program and of the reference. Condition: at most 1048576 routes, each Begin of at most 1048576 bytes. -/
import Derived.Test.Ytplalcciodbddaa6r
namespace Go.Proofs.Ytplalcciodbddaa
open Go.RowKit
set_option linter.unusedSimpArgs false
set_option linter.unusedVariables false
def okRt (x : Rt) : Bool := decide (x.b.size ≤ 3) && (digitsB x.b && inB x.o 0 99)
def RPairs (xs : List Rt) (x : Rt) (j : Nat) : Prop := ∀ (i : Nat) y, i < j → xs[i]? = some y → ¬ y.b = x.b
def RTo (xs : List Rt) (k : Nat) : Prop := ∀ (i : Nat) x, i < k → xs[i]? = some x → okRt x = true ∧ RPairs xs x i
def RoutesOk (xs : List Rt) : Prop := RTo xs xs.length ∧ xs.length ≤ 8
theorem RTo.succ {xs : List Rt} {k : Nat} {x : Rt} (h : RTo xs k) (hx : xs[k]? = some x) (ho : okRt x = true) (hp : RPairs xs x k) : RTo xs (k + 1) := by
  intro i y hi hy
  rcases (by omega : i < k ∨ i = k) with h1 | rfl
  · exact h i y h1 hy
  · rw [hx] at hy; injection hy with hy; subst hy; exact ⟨ho, hp⟩
theorem RPairs.succ {xs : List Rt} {j : Nat} {x y : Rt} (h : RPairs xs x j) (hy : xs[j]? = some y) (h1 : ¬ y.b = x.b) : RPairs xs x (j + 1) := by
  intro i z hi hz
  rcases (by omega : i < j ∨ i = j) with h3 | rfl
  · exact h i z h3 hz
  · rw [hy] at hz; injection hz with hz; subst hz; exact h1
theorem not_routes_num {xs : List Rt} {k : Nat} {x : Rt} (hx : xs[k]? = some x) (ho : okRt x = false) : ¬ RoutesOk xs := fun h => by
  have := (h.1 k x (List.getElem?_eq_some_iff.1 hx).1 hx).1; rw [ho] at this; cases this
theorem not_routes_pair {xs : List Rt} {k j : Nat} {x y : Rt} (hj : j < k) (hx : xs[k]? = some x) (hy : xs[j]? = some y) (ho : y.b = x.b) : ¬ RoutesOk xs := fun h =>
  (h.1 k x (List.getElem?_eq_some_iff.1 hx).1 hx).2 j y hj hy ho
theorem bytes_eq_of (x y : ByteArray) (h : x = y) : (x.toList == y.toList) = true := by subst h; simp
theorem bytes_ne_of (x y : ByteArray) (h : ¬ x = y) : (x.toList == y.toList) = false := by
  rw [beq_eq_false_iff_ne]; exact fun e => h (bytes_ext e)

theorem spec_RoutesValid (A : Option Addr) (n c : Nat) (xs : List Rt) (w : World) (hx : RdR w A n xs) (hn : n ≤ 1048576) (hs : ∀ x ∈ xs, x.b.size ≤ 1048576) :
    Calls Try.prog 36 #[.slice A n c] w (RetB (RoutesOk xs) w) := by
  have HL := hx.len
  have HS := Lib.hid hs; clear hs
  go_enter Try.func36, Try.ntmps36
  go_wp2
  go_loopg [3] n (fun g i wr => ∃ k m : Nat, k ≤ n ∧ g = n - k ∧ i = .int .i64 k ∧ RTo xs k ∧ wr = w.drewN m)
  case atStart => exact ⟨0, 0, Nat.zero_le _, rfl, rfl, (fun i _ h => absurd h (Nat.not_lt_zero _)), rfl⟩
  case round =>
    obtain ⟨k, m, hk, rfl, rfl, hall, rfl⟩ := hrel
    by_cases hlt : k < n
    · obtain ⟨b, off, x, rfl, HX, g0, g1⟩ := RdR.at hx hlt
      have hxs : x.b.size ≤ 1048576 := HS.out x (List.mem_of_getElem? HX.out)
      cases hd : digitsB x.b with
      | false =>
        have HD := Lib.hid hd; clear hd
        go_wp2_with fail
        refine (spec_DigitsOk x.b _ (by omega)).mono ?_
        rintro e w2 ⟨rfl, m2, rfl⟩
        rw [HD.out]
        go_wp2
        go_ret
        exact RetB.no (not_routes_num HX.out (by simp [okRt, HD.out])) _
      | true =>
        have HD := Lib.hid hd; clear hd
        by_cases h3 : 3 < x.b.size
        · go_wp2_with fail
          refine (spec_DigitsOk x.b _ (by omega)).mono ?_
          rintro e w2 ⟨rfl, m2, rfl⟩
          rw [HD.out]
          go_wp2
          go_ret
          exact RetB.no (not_routes_num HX.out (by simp [okRt]; omega)) _
        · have hz3 : decide ((3 : Int) < (x.b.size : Int)) = false := by simp; omega
          cases hi : inB x.o 0 99 with
          | false =>
            have HI := Lib.hid hi; clear hi
            go_wp2_with fail
            refine (spec_DigitsOk x.b _ (by omega)).mono ?_
            rintro e w2 ⟨rfl, m2, rfl⟩
            rw [HD.out]
            go_wp2_with fail
            refine (l1In_any x.o 0 99 _).mono ?_
            rintro e w3 ⟨rfl, m3, rfl⟩
            rw [HI.out]
            go_wp2
            go_ret
            exact RetB.no (not_routes_num HX.out (by simp [okRt, HI.out])) _
          | true =>
            have HI := Lib.hid hi; clear hi
            go_wp2_with fail
            refine (spec_DigitsOk x.b _ (by omega)).mono ?_
            rintro e w2 ⟨rfl, m2, rfl⟩
            rw [HD.out]
            go_wp2_with fail
            refine (l1In_any x.o 0 99 _).mono ?_
            rintro e w3 ⟨rfl, m3, rfl⟩
            rw [HI.out]
            go_wp2
            go_loopg [4] k (fun g i wr => ∃ j m' : Nat, j ≤ k ∧ g = k - j ∧ i = .int .i64 j ∧ RPairs xs x j ∧ wr = w.drewN m')
            case atStart => exact ⟨0, m + m2 + m3, Nat.zero_le _, rfl, rfl, (fun i _ h => absurd h (Nat.not_lt_zero _)), by simp⟩
            case round =>
              obtain ⟨j, m', hj, rfl, rfl, hpairs, rfl⟩ := hrel
              by_cases hjk : j < k
              · obtain ⟨b', off', y, hA, HY, g0', g1'⟩ := RdR.at hx (k := j) (by omega)
                injection hA with hA; injection hA with hA1 hA2; subst hA1 hA2
                have hjn : j < n := by omega
                by_cases hb1 : y.b = x.b
                · have hz := bytes_eq_of _ _ hb1
                  have HB1 := Lib.hid hb1; clear hb1
                  go_wp2
                  go_quiet (fail)
                  go_wp2
                  go_ret
                  exact RetB.no2 (not_routes_pair hjk HX.out HY.out HB1.out) _ _
                · have hz := bytes_ne_of _ _ hb1
                  have HB1 := Lib.hid hb1; clear hb1
                  go_wp2
                  go_quiet (fail)
                  go_wp2
                  go_roundg (k - (j + 1))
                  case rel => exact ⟨j + 1, m' + nq, by omega, rfl, by go_num, hpairs.succ HY.out HB1.out, by simp⟩
                  case measure => omega
              · go_wp2
                obtain rfl : j = k := by omega
                go_roundg (n - (j + 1))
                case rel => exact ⟨j + 1, m', by omega, rfl, by go_num, hall.succ HX.out (by simp [okRt, HD.out, HI.out]; omega) hpairs, rfl⟩
                case measure => omega
    · obtain rfl : k = n := by omega
      by_cases h10 : k ≤ 8
      · have hz : decide ((k : Int) ≤ 8) = true := by simp; omega
        go_wp2
        go_ret
        exact RetB.yes ⟨by rw [HL.out]; exact hall, by rw [HL.out]; exact h10⟩ _
      · have hz : decide ((k : Int) ≤ 8) = false := by simp; omega
        go_wp2
        go_ret
        exact RetB.no (fun h => absurd h.2 (by rw [HL.out]; exact h10)) _

/-- A test that may make memory of its own. -/
def RetM (P : Prop) (w : World) (e : Ending) (w' : World) : Prop := ∃ b, e = .returned (.bool b) ∧ Hid (b = true ↔ P) ∧ Below w.heap.size w w'
theorem RetM.yes {P : Prop} {w w' : World} (h : P) (b : Below w.heap.size w w') : RetM P w (.returned (.bool true)) w' := ⟨true, rfl, ⟨fun _ => h, fun _ => rfl⟩, b⟩
theorem RetM.no {P : Prop} {w w' : World} (h : ¬ P) (b : Below w.heap.size w w') : RetM P w (.returned (.bool false)) w' := ⟨false, rfl, ⟨(by simp), fun h' => absurd h' h⟩, b⟩

theorem impl_RoutesValid (A : Option Addr) (n c : Nat) (xs : List Rt) (w : World) (hx : RdR w A n xs) (hc : n ≤ c) (hn : n ≤ 1048576) :
    Calls Try.prog 38 #[.slice A n c] w (RetM (RoutesOk xs) w) := by
  have HL := hx.len
  by_cases h10 : n ≤ 8
  · have h10z : decide ((8 : Int) < (n : Int)) = false := by simp; omega
    go_enter Try.func38, Try.ntmps38
    go_wp2
    go_loopg [12] n (fun g i wr => ∃ k : Nat, k ≤ n ∧ g = n - k ∧ i = .int .i64 k ∧ RTo xs k ∧ Below w.heap.size w wr)
    case atStart => exact ⟨0, Nat.zero_le _, rfl, rfl, (fun i _ h => absurd h (Nat.not_lt_zero _)), Below.refl _ _⟩
    case round =>
      obtain ⟨k, hk, rfl, rfl, hall, hbel⟩ := hrel
      obtain ⟨wo, rfl⟩ : ∃ wo : World, wo = wr := ⟨_, rfl⟩
      by_cases hlt : k < n
      · obtain ⟨b, off, x, rfl, HX, g0, g1⟩ := RdR.at (hx.below hbel (Nat.le_refl _)) hlt
        have B1 : Below w.heap.size w (wo.alloc (.cells #[.string x.b, .int .i64 x.o] 59)) := bstep hbel (below_box wo _)
        by_cases h3 : 3 < x.b.size
        · go_wp2
          go_ret
          exact RetM.no (not_routes_num HX.out (by simp [okRt]; omega)) B1
        · have hz3 : decide ((3 : Int) < (x.b.size : Int)) = false := by simp; omega
          cases hd : digitsB x.b with
          | false =>
            have HD := Lib.hid hd; clear hd
            go_wp2_with fail
            refine (impl_DigitsOk x.b _ (by omega)).mono ?_
            rintro e w2 ⟨rfl, m2, rfl⟩
            rw [HD.out]
            go_wp2
            go_ret
            exact RetM.no (not_routes_num HX.out (by simp [okRt, HD.out])) (below_drewN B1 _)
          | true =>
            have HD := Lib.hid hd; clear hd
            by_cases ho1 : x.o < 0
            · have hz : decide (x.o < 0) = true := by simp; omega
              go_wp2_with fail
              refine (impl_DigitsOk x.b _ (by omega)).mono ?_
              rintro e w2 ⟨rfl, m2, rfl⟩
              rw [HD.out]
              go_wp2
              go_ret
              exact RetM.no (not_routes_num HX.out (by simp [okRt, inB]; omega)) (below_drewN B1 _)
            · have hz : decide (x.o < 0) = false := by simp; omega
              by_cases ho2 : 99 < x.o
              · go_wp2_with fail
                refine (impl_DigitsOk x.b _ (by omega)).mono ?_
                rintro e w2 ⟨rfl, m2, rfl⟩
                rw [HD.out]
                go_wp2
                go_ret
                exact RetM.no (not_routes_num HX.out (by simp [okRt, inB]; omega)) (below_drewN B1 _)
              · have hz2 : decide (99 < x.o) = false := by simp; omega
                go_wp2_with fail
                refine (impl_DigitsOk x.b _ (by omega)).mono ?_
                rintro e w2 ⟨rfl, m2, rfl⟩
                rw [HD.out]
                go_wp2
                have HO : Hid (okRt x = true) := by show _ = _; simp [okRt, inB, HD.out]; omega
                obtain ⟨W, HW⟩ : ∃ W, Hid (W = (wo.alloc (.cells #[.string x.b, .int .i64 x.o] 59)).drewN m2) := ⟨_, rfl⟩
                have BW : Below w.heap.size w W := by rw [HW.out]; exact below_drewN B1 m2
                have hW0 : W.cell? ⟨wo.heap.size, 0, none⟩ = some (.string x.b) := by rw [HW.out]; simp
                have hWs : wo.heap.size < W.heap.size := by rw [HW.out]; simp
                rw [← HW.out]
                go_loopg [41] k (fun g i wi => ∃ j : Nat, j ≤ k ∧ g = k - j ∧ i = .int .i64 j ∧ RPairs xs x j ∧ Below W.heap.size W wi)
                case atStart => exact ⟨0, Nat.zero_le _, rfl, rfl, (fun i _ h => absurd h (Nat.not_lt_zero _)), Below.refl _ _⟩
                case round =>
                  obtain ⟨j, hj, rfl, rfl, hpairs, hbi⟩ := hrel
                  have c0 : wr.cell? ⟨wo.heap.size, 0, none⟩ = some (.string x.b) := (hbi.cell (p := ⟨wo.heap.size, 0, none⟩) hWs).trans hW0
                  have hsz : wo.heap.size < wr.heap.size := Nat.lt_of_lt_of_le hWs hbi.size
                  have BI := bstep BW hbi
                  by_cases hjk : j < k
                  · obtain ⟨b', off', y, hA, HY, g0', g1'⟩ := RdR.at (hx.below BI (Nat.le_refl _)) (k := j) (by omega)
                    injection hA with hA; injection hA with hA1 hA2; subst hA1 hA2
                    have hjn : j < n := by omega
                    have BJ : Below W.heap.size W (wr.alloc (.cells #[.string y.b, .int .i64 y.o] 59)) := bstep hbi (below_box wr _)
                    by_cases hb1 : y.b = x.b
                    · have hz := bytes_eq_of _ _ hb1
                      have HB1 := Lib.hid hb1; clear hb1
                      go_wp2
                      go_ret
                      exact RetM.no (not_routes_pair hjk HX.out HY.out HB1.out) (bstep BW BJ)
                    · have hz := bytes_ne_of _ _ hb1
                      have HB1 := Lib.hid hb1; clear hb1
                      go_wp2
                      go_roundg (k - (j + 1))
                      case rel => exact ⟨j + 1, by omega, rfl, by go_num, hpairs.succ HY.out HB1.out, BJ⟩
                      case measure => omega
                  · go_wp2
                    obtain rfl : j = k := by omega
                    go_roundg (n - (j + 1))
                    case rel => exact ⟨j + 1, by omega, rfl, by go_num, hall.succ HX.out HO.out hpairs, BI⟩
                    case measure => omega
      · go_wp2
        go_ret
        obtain rfl : k = n := by omega
        exact RetM.yes ⟨by rw [HL.out]; exact hall, by rw [HL.out]; exact h10⟩ hbel
  · go_enter Try.func38, Try.ntmps38
    go_wp2
    go_ret
    exact RetM.no (fun h => absurd h.2 (by rw [HL.out]; exact h10)) (Below.refl _ _)
end Go.Proofs.Ytplalcciodbddaa
