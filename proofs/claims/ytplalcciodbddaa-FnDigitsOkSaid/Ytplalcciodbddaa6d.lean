/- DigitsOk of the program and of the reference answer one and the same plain function: every byte is one of the digits 0 to 3. Condition: texts of at most 1048576 bytes (a little more is allowed). -/
import Derived.Test.YtplalcciodbddaaCom
namespace Go.Proofs.Ytplalcciodbddaa
open Go.RowKit
set_option linter.unusedSimpArgs false
set_option linter.unusedVariables false

def dig (c : UInt8) : Bool := decide (48 ≤ c.toNat) && decide (c.toNat ≤ 51)
def digitsB (s : ByteArray) : Bool := s.data.toList.all dig
theorem byte_at (s : ByteArray) (k : Nat) (h : k < s.size) : s.data.toList[k]? = some s[k] := by
  have h' : k < s.data.size := h
  simp only [Array.getElem?_toList, Array.getElem?_eq_getElem h']
  rfl
theorem bytes_len (s : ByteArray) : s.data.toList.length = s.size := Array.length_toList

theorem impl_DigitsOk (s : ByteArray) (w : World) (hs : s.size ≤ 1048600) :
    Calls Try.prog 15 #[.string s] w fun e w' => e = .returned (.bool (digitsB s)) ∧ ∃ m, w' = w.drewN m := by
  go_enter Try.func15, Try.ntmps15
  go_wp2
  go_loopg [6] s.size (fun g i wr => ∃ k m : Nat, k ≤ s.size ∧ g = s.size - k ∧ i = .int .i64 k ∧ Hid ((s.data.toList.take k).all dig = true) ∧ wr = w.drewN m)
  case atStart => exact ⟨0, 0, Nat.zero_le _, rfl, rfl, rfl, rfl⟩
  case round =>
    obtain ⟨k, m, hk, rfl, rfl, hall, rfl⟩ := hrel
    by_cases hlt : k < s.size
    · have HX : Hid (s.data.toList[k]? = some s[k]) := byte_at s k hlt
      by_cases h1 : (s[k].toNat : Int) < 48
      · go_wp2
        go_ret
        exact ⟨ret_bool (by rw [digitsB, all_stop HX.out (by simp [dig]; omega)]), _, rfl⟩
      · by_cases h2 : 52 ≤ (s[k].toNat : Int)
        · go_wp2
          go_ret
          exact ⟨ret_bool (by rw [digitsB, all_stop HX.out (by simp [dig]; omega)]), _, rfl⟩
        · go_wp2
          go_roundg (s.size - (k + 1))
          case rel => exact ⟨k + 1, _, by omega, rfl, by go_num, all_snoc HX.out hall.out (by simp [dig]; omega), rfl⟩
          case measure => omega
    · go_wp2
      go_ret
      exact ⟨ret_bool (by rw [digitsB, all_done hall.out (by rw [bytes_len]; omega)]), _, rfl⟩
theorem spec_DigitsOk (s : ByteArray) (w : World) (hs : s.size ≤ 1048600) :
    Calls Try.prog 14 #[.string s] w fun e w' => e = .returned (.bool (digitsB s)) ∧ ∃ m, w' = w.drewN m := by
  go_enter Try.func14, Try.ntmps14
  go_wp2
  go_loopg [3] s.size (fun g i wr => ∃ k m : Nat, k ≤ s.size ∧ g = s.size - k ∧ i = .int .i64 k ∧ Hid ((s.data.toList.take k).all dig = true) ∧ wr = w.drewN m)
  case atStart => exact ⟨0, 0, Nat.zero_le _, rfl, rfl, rfl, rfl⟩
  case round =>
    obtain ⟨k, m, hk, rfl, rfl, hall, rfl⟩ := hrel
    by_cases hlt : k < s.size
    · have HX : Hid (s.data.toList[k]? = some s[k]) := byte_at s k hlt
      go_wp2
      · go_roundg (s.size - (k + 1))
        case rel => exact ⟨k + 1, _, by omega, rfl, by go_num, all_snoc HX.out hall.out (by have hb := UInt8.toNat_lt s[k]; simp [dig]; omega), rfl⟩
        case measure => omega
      · go_ret
        have hb := UInt8.toNat_lt s[k]
        exact ⟨ret_bool (by rw [digitsB, all_stop HX.out (by simp [dig]; omega)]), _, rfl⟩
    · go_wp2
      go_ret
      exact ⟨ret_bool (by rw [digitsB, all_done hall.out (by rw [bytes_len]; omega)]), _, rfl⟩
end Go.Proofs.Ytplalcciodbddaa
