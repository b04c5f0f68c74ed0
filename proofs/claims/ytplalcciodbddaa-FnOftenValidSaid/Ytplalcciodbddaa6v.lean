/- The tests of lengths, of how often subscribers are dialled, and of digits, in the program and in the reference, answer one and the same plain function. Condition: at most 1048576 elements or letters. -/
import Derived.Test.YtplalcciodbddaaCom
namespace Go.Proofs.Ytplalcciodbddaa
open Go.RowKit
set_option linter.unusedSimpArgs false
set_option linter.unusedVariables false

def lengthsB (xs : List Int) : Bool := xs.all (fun x => inB x 1 3) && decide (xs.length ≤ 10)
theorem spec_LengthsValid (A : Option Addr) (n c : Nat) (xs : List Int) (w : World) (hx : RdL iv w A n xs) (hn : n ≤ 1048576) :
    Calls Try.prog 16 #[.slice A n c] w fun e w' => e = .returned (.bool (lengthsB xs)) ∧ ∃ m, w' = w.drewN m := by
  have HL := hx.len
  go_enter Try.func16, Try.ntmps16
  go_wp2
  go_loopg [3] n (fun g i wr => ∃ k m : Nat, k ≤ n ∧ g = n - k ∧ i = .int .i64 k ∧ Hid ((xs.take k).all (fun x => inB x 1 3) = true) ∧ wr = w.drewN m)
  case atStart => exact ⟨0, 0, Nat.zero_le _, rfl, rfl, rfl, rfl⟩
  case round =>
    obtain ⟨k, m, hk, rfl, rfl, hall, rfl⟩ := hrel
    by_cases hlt : k < n
    · obtain ⟨b, off, x, rfl, HX, g⟩ := hx.at hlt
      have HOK : Hid (inB x 1 3 = (decide (1 ≤ x) && decide (x ≤ 3))) := rfl
      by_cases h1 : 1 ≤ x <;> by_cases h2 : x ≤ 3
      · go_wp2
        go_roundg (n - (k + 1))
        case rel => exact ⟨k + 1, _, by omega, rfl, by go_num, all_snoc HX.out hall.out (by rw [HOK.out]; simp [h1, h2]), rfl⟩
        case measure => omega
      all_goals
        go_wp2
        go_ret
        exact ⟨ret_bool (by rw [lengthsB, all_stop HX.out (by rw [HOK.out]; simp [h1, h2])]; rfl), _, rfl⟩
    · go_wp2
      go_ret
      exact ⟨ret_bool (by rw [lengthsB, all_done hall.out (by rw [HL.out]; omega), HL.out]; simp; omega), _, rfl⟩

theorem impl_LengthsValid (A : Option Addr) (n c : Nat) (xs : List Int) (w : World) (hx : RdL iv w A n xs) (hn : n ≤ 1048576) :
    Calls Try.prog 18 #[.slice A n c] w fun e w' => e = .returned (.bool (lengthsB xs)) ∧ ∃ m, w' = w.drewN m := by
  have HL := hx.len
  by_cases h10 : n ≤ 10
  · have h10z : decide ((10 : Int) < (n : Int)) = false := by simp; omega
    go_enter Try.func18, Try.ntmps18
    go_wp2
    go_loopg [10] n (fun g i wr => ∃ k m : Nat, k ≤ n ∧ g = n - k ∧ i = .int .i64 k ∧ Hid ((xs.take k).all (fun x => inB x 1 3) = true) ∧ wr = w.drewN m)
    case atStart => exact ⟨0, 0, Nat.zero_le _, rfl, rfl, rfl, rfl⟩
    case round =>
      obtain ⟨k, m, hk, rfl, rfl, hall, rfl⟩ := hrel
      by_cases hlt : k < n
      · obtain ⟨b, off, x, rfl, HX, g⟩ := hx.at hlt
        have HOK : Hid (inB x 1 3 = (decide (1 ≤ x) && decide (x ≤ 3))) := rfl
        by_cases h1 : 1 ≤ x <;> by_cases h2 : x ≤ 3
        · go_wp2
          go_roundg (n - (k + 1))
          case rel => exact ⟨k + 1, _, by omega, rfl, by go_num, all_snoc HX.out hall.out (by rw [HOK.out]; simp [h1, h2]), rfl⟩
          case measure => omega
        all_goals
          go_wp2
          go_ret
          exact ⟨ret_bool (by rw [lengthsB, all_stop HX.out (by rw [HOK.out]; simp [h1, h2])]; rfl), _, rfl⟩
      · go_wp2
        go_ret
        exact ⟨ret_bool (by rw [lengthsB, all_done hall.out (by rw [HL.out]; omega), HL.out, decide_eq_true h10]; rfl), _, rfl⟩
  · go_enter Try.func18, Try.ntmps18
    go_wp2
    go_ret
    exact ⟨ret_bool (by rw [lengthsB, HL.out, decide_eq_false h10]; simp), 0, rfl⟩

def oftenB (xs : List Int) : Bool := xs.all (fun x => inB x 0 99) && (decide (2 ≤ xs.length) && decide (xs.length ≤ 10))
theorem spec_OftenValid (A : Option Addr) (n c : Nat) (xs : List Int) (w : World) (hx : RdL iv w A n xs) (hn : n ≤ 1048576) :
    Calls Try.prog 20 #[.slice A n c] w fun e w' => e = .returned (.bool (oftenB xs)) ∧ ∃ m, w' = w.drewN m := by
  have HL := hx.len
  go_enter Try.func20, Try.ntmps20
  go_wp2
  go_loopg [3] n (fun g i wr => ∃ k m : Nat, k ≤ n ∧ g = n - k ∧ i = .int .i64 k ∧ Hid ((xs.take k).all (fun x => inB x 0 99) = true) ∧ wr = w.drewN m)
  case atStart => exact ⟨0, 0, Nat.zero_le _, rfl, rfl, rfl, rfl⟩
  case round =>
    obtain ⟨k, m, hk, rfl, rfl, hall, rfl⟩ := hrel
    by_cases hlt : k < n
    · obtain ⟨b, off, x, rfl, HX, g⟩ := hx.at hlt
      have HOK : Hid (inB x 0 99 = (decide (0 ≤ x) && decide (x ≤ 99))) := rfl
      by_cases h1 : 0 ≤ x <;> by_cases h2 : x ≤ 99
      · go_wp2
        go_roundg (n - (k + 1))
        case rel => exact ⟨k + 1, _, by omega, rfl, by go_num, all_snoc HX.out hall.out (by rw [HOK.out]; simp [h1, h2]), rfl⟩
        case measure => omega
      all_goals
        go_wp2
        go_ret
        exact ⟨ret_bool (by rw [oftenB, all_stop HX.out (by rw [HOK.out]; simp [h1, h2])]; rfl), _, rfl⟩
    · rcases (by omega : (n < 2 ∨ (2 ≤ n ∧ n ≤ 10)) ∨ 10 < n) with (h1 | ⟨h1, h2⟩) | h1
      all_goals
        go_wp2
        go_ret
        exact ⟨ret_bool (by rw [oftenB, all_done hall.out (by rw [HL.out]; omega), HL.out, Bool.true_and, Bool.eq_iff_iff]; simp; try omega), _, rfl⟩

theorem impl_OftenValid (A : Option Addr) (n c : Nat) (xs : List Int) (w : World) (hx : RdL iv w A n xs) (hn : n ≤ 1048576) :
    Calls Try.prog 21 #[.slice A n c] w fun e w' => e = .returned (.bool (oftenB xs)) ∧ ∃ m, w' = w.drewN m := by
  have HL := hx.len
  by_cases h2 : 2 ≤ n
  · by_cases h10 : n ≤ 10
    · have h2z : decide ((n : Int) < 2) = false := by simp; omega
      have h10z : decide ((10 : Int) < (n : Int)) = false := by simp; omega
      go_enter Try.func21, Try.ntmps21
      go_wp2
      go_loopg [15] n (fun g i wr => ∃ k m : Nat, k ≤ n ∧ g = n - k ∧ i = .int .i64 k ∧ Hid ((xs.take k).all (fun x => inB x 0 99) = true) ∧ wr = w.drewN m)
      case atStart => exact ⟨0, 0, Nat.zero_le _, rfl, rfl, rfl, rfl⟩
      case round =>
        obtain ⟨k, m, hk, rfl, rfl, hall, rfl⟩ := hrel
        by_cases hlt : k < n
        · obtain ⟨b, off, x, rfl, HX, g⟩ := hx.at hlt
          have HOK : Hid (inB x 0 99 = (decide (0 ≤ x) && decide (x ≤ 99))) := rfl
          by_cases h1 : 0 ≤ x <;> by_cases h3 : x ≤ 99
          · go_wp2
            go_roundg (n - (k + 1))
            case rel => exact ⟨k + 1, _, by omega, rfl, by go_num, all_snoc HX.out hall.out (by rw [HOK.out]; simp [h1, h3]), rfl⟩
            case measure => omega
          all_goals
            go_wp2
            go_ret
            exact ⟨ret_bool (by rw [oftenB, all_stop HX.out (by rw [HOK.out]; simp [h1, h3])]; rfl), _, rfl⟩
        · go_wp2
          go_ret
          exact ⟨ret_bool (by rw [oftenB, all_done hall.out (by rw [HL.out]; omega), HL.out, decide_eq_true h10, decide_eq_true h2]; rfl), _, rfl⟩
    · have h2z : decide ((n : Int) < 2) = false := by simp; omega
      go_enter Try.func21, Try.ntmps21
      go_wp2
      go_ret
      exact ⟨ret_bool (by rw [oftenB, HL.out, decide_eq_false h10]; simp), 0, rfl⟩
  · go_enter Try.func21, Try.ntmps21
    go_wp2
    go_ret
    exact ⟨ret_bool (by rw [oftenB, HL.out, decide_eq_false h2]; simp), 0, rfl⟩
end Go.Proofs.Ytplalcciodbddaa
