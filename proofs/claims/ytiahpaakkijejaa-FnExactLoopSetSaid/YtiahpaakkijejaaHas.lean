/- l1Has and l1Perm of the reference (for the seats without calls). Condition: at most 1048576 numbers. -/
import Derived.Test.YtiahpaakkijejaaCom
import Derived.Test.YtiahpaakkijejaaMem2
import Derived.Test.YtiahpaakkijejaaPlain
namespace Go.Proofs.Ytiahpaakkijejaa
open Go.RowKit
set_option linter.unusedSimpArgs false
set_option linter.unusedVariables false
theorem l1_is {n lo hi : Int} {b : Bool} {w : World} (h : inB n lo hi = b) : Calls Try.prog 49 #[.int .i64 n, .int .i64 lo, .int .i64 hi] w fun e w' => e = .returned (.bool b) ∧ ∃ m, w' = w.drewN m := by
  rw [← h]; exact l1In_any n lo hi w
theorem l1Has_any (A : Option Addr) (n c : Nat) (xs : List Int) (v : Int) (w : World) (hx : RdL iv w A n xs) (hn : n ≤ 1048576) :
    Calls Try.prog 69 #[.slice A n c, .int .i64 v] w fun e w' => e = .returned (.bool (decide (v ∈ xs))) ∧ ∃ m, w' = w.drewN m := by
  have HL := hx.len
  go_enter Try.func69, Try.ntmps69
  go_wp2
  go_loopg [5] n (fun g i wr => ∃ k m : Nat, k ≤ n ∧ g = n - k ∧ i = .int .i64 k ∧ Hid (v ∉ xs.take k) ∧ wr = w.drewN m)
  case atStart => exact ⟨0, 0, Nat.zero_le _, rfl, rfl, (by show v ∉ xs.take 0; simp), rfl⟩
  case round =>
    obtain ⟨k, m, hk, rfl, rfl, HN, rfl⟩ := hrel
    by_cases hlt : k < n
    · obtain ⟨b, off, x, rfl, HX, g⟩ := hx.at hlt
      by_cases hv : x = v
      · subst hv
        go_wp2
        go_ret
        exact ⟨ret_bool (decide_eq_true (List.mem_of_getElem? HX.out)).symm, _, rfl⟩
      · have hz : (x == v) = false := by simpa using hv
        have HV := Lib.hid hv; clear hv
        go_wp2
        go_roundg (n - (k + 1))
        case rel => exact ⟨k + 1, m, by omega, rfl, by go_num, (by
          show v ∉ xs.take (k + 1)
          rw [take_snoc HX.out, List.mem_append]
          rintro (h | h)
          · exact HN.out h
          · simp at h; exact HV.out h.symm), rfl⟩
        case measure => omega
    · go_wp2
      go_ret
      exact ⟨ret_bool (decide_eq_false (by have := HN.out; rwa [List.take_of_length_le (by rw [HL.out]; omega)] at this)).symm, _, rfl⟩
theorem has_is {A : Option Addr} {n c : Nat} {xs : List Int} {v : Int} {b : Bool} {w0 : World} (hx : RdL iv w0 A n xs) (hn : n ≤ 1048576) (h : decide (v ∈ xs) = b) {m : Nat} : Calls Try.prog 69 #[.slice A n c, .int .i64 v] (w0.drewN m) fun e w' => e = .returned (.bool b) ∧ ∃ k, w' = (w0.drewN m).drewN k := by
  rw [← h]; exact l1Has_any A n c xs v _ (RdL.drewN hx m) hn
set_option maxRecDepth 100000 in
set_option maxHeartbeats 2000000 in
theorem spec_l1Perm (A : Option Addr) (n c : Nat) (xs : List Int) (w : World) (hx : RdL iv w A n xs) (hc : n ≤ c) (hn : n ≤ 1048576) :
    Calls Try.prog 59 #[.slice A n c] w (RetB (PermOk xs) w) := by
  have HL := hx.len
  go_enter Try.func59, Try.ntmps59
  go_wp2
  go_loopg [3] n (fun g i wr => ∃ k m : Nat, k ≤ n ∧ g = n - k ∧ i = .int .i64 k ∧ Hid (PermTo xs k) ∧ wr = w.drewN m)
  case atStart => exact ⟨0, 0, Nat.zero_le _, rfl, rfl, (fun i _ h => absurd h (Nat.not_lt_zero _)), rfl⟩
  case round =>
    obtain ⟨k, m, hk, rfl, rfl, HP, rfl⟩ := hrel
    by_cases hlt : k < n
    · obtain ⟨b, off, x, rfl, HX, g⟩ := hx.at hlt
      have HNO : Hid (¬ (0 ≤ x ∧ x ≤ (n : Int) - 1 ∧ x ∉ xs.take k) → ¬ PermOk xs) := fun h hp => h (by
        obtain ⟨h1, h2, h3⟩ := hp k x HX.out
        rw [HL.out] at h2
        exact ⟨h1, by omega, h3⟩)
      have hk0 : (0 : Int) ≤ (k : Int) := Int.natCast_nonneg _
      have hk1 : (k : Int) < (n : Int) := by omega
      have HWR : Hid (IntKind.i64.wrap ((n : Int) - 1) = (n : Int) - 1) := IntWalk.i64_in _ (by omega)
      have hkc : (k : Int) ≤ (c : Int) := by omega
      cases hin : inB x 0 ((n : Int) - 1) with
      | false =>
        have HIN := Lib.hid hin; clear hin
        go_wp2
        have hwr := HWR.out
        go_quiet ((go_at_call 49; exact quiet_add (l1_is HIN.out)))
        clear hwr
        go_wp2
        go_ret
        exact RetB.no2 (HNO.out (fun h => by have h1 : inB x 0 ((n : Int) - 1) = true := (by simp [inB]; omega); rw [HIN.out] at h1; cases h1)) _ _
      | true =>
        have HIN := Lib.hid hin; clear hin
        cases hm : decide (x ∈ xs.take k) with
        | true =>
          have HM := Lib.hid hm; clear hm
          go_wp2
          have hwr := HWR.out
          go_quiet (first
            | (go_at_call 49; exact quiet_add (l1_is HIN.out))
            | (go_at_call 69; exact quiet_add (has_is (hx.take (Nat.le_of_lt hlt)) (by omega) HM.out)))
          clear hwr
          go_wp2
          go_ret
          exact RetB.no2 (HNO.out (fun h => h.2.2 (of_decide_eq_true HM.out))) _ _
        | false =>
          have HM := Lib.hid hm; clear hm
          go_wp2
          have hwr := HWR.out
          go_quiet (first
            | (go_at_call 49; exact quiet_add (l1_is HIN.out))
            | (go_at_call 69; exact quiet_add (has_is (hx.take (Nat.le_of_lt hlt)) (by omega) HM.out)))
          clear hwr
          go_wp2
          go_roundg (n - (k + 1))
          case rel => exact ⟨k + 1, m + nq, by omega, rfl, by go_num, HP.out.succ HX.out (by have := HIN.out; simp [inB] at this; omega) (by have := HIN.out; simp [inB] at this; rw [HL.out]; omega) (of_decide_eq_false HM.out), by simp⟩
          case measure => omega
    · go_wp2
      go_ret
      exact RetB.yes (HP.out.done (by rw [HL.out]; omega)) _
end Go.Proofs.Ytiahpaakkijejaa
