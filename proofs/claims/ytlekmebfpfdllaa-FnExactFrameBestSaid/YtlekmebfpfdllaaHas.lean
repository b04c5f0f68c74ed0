/- l1Has and l1Perm of the reference (for the seats without calls). Condition: at most 1048576 numbers. -/
import Derived.Test.YtlekmebfpfdllaaCom
import Derived.Test.YtlekmebfpfdllaaMem2
import Derived.Test.YtlekmebfpfdllaaPlain
namespace Go.Proofs.Ytlekmebfpfdllaa
open Go.RowKit
set_option linter.unusedSimpArgs false
set_option linter.unusedVariables false
theorem l1_is {n lo hi : Int} {b : Bool} {w : World} (h : inB n lo hi = b) : Calls Try.prog 36 #[.int .i64 n, .int .i64 lo, .int .i64 hi] w fun e w' => e = .returned (.bool b) ∧ ∃ m, w' = w.drewN m := by
  rw [← h]; exact l1In_any n lo hi w
theorem l1Has_any (A : Option Addr) (n c : Nat) (xs : List Int) (v : Int) (w : World) (hx : RdL iv w A n xs) (hn : n ≤ 1048576) :
    Calls Try.prog 40 #[.slice A n c, .int .i64 v] w fun e w' => e = .returned (.bool (decide (v ∈ xs))) ∧ ∃ m, w' = w.drewN m := by
  have HL := hx.len
  go_enter Try.func40, Try.ntmps40
  go_wp2
  go_loopg [5] n (fun g i wr => ∃ k m : Nat, k ≤ n ∧ g = n - k ∧ i = .int .i64 k ∧ Hid (v ∉ xs.take k) ∧ wr = w.drewN m)
  case atStart => exact ⟨0, 0, Nat.zero_le _, rfl, rfl, (by show v ∉ xs.take 0; simp), rfl⟩
  case round =>
    obtain ⟨k, m, hk, rfl, rfl, HN, rfl⟩ := hrel
    by_cases hlt : k < n
    · obtain ⟨b, off, x, rfl, HX, g⟩ := hx.at hlt
      by_cases hv : x = v
      · subst hv
        go_wp2
        go_ret
        exact ⟨ret_bool (decide_eq_true (List.mem_of_getElem? HX.out)).symm, _, rfl⟩
      · have hz : (x == v) = false := by simpa using hv
        have HV := Lib.hid hv; clear hv
        go_wp2
        go_roundg (n - (k + 1))
        case rel => exact ⟨k + 1, m, by omega, rfl, by go_num, (by
          show v ∉ xs.take (k + 1)
          rw [take_snoc HX.out, List.mem_append]
          rintro (h | h)
          · exact HN.out h
          · simp at h; exact HV.out h.symm), rfl⟩
        case measure => omega
    · go_wp2
      go_ret
      exact ⟨ret_bool (decide_eq_false (by have := HN.out; rwa [List.take_of_length_le (by rw [HL.out]; omega)] at this)).symm, _, rfl⟩
theorem has_is {A : Option Addr} {n c : Nat} {xs : List Int} {v : Int} {b : Bool} {w0 : World} (hx : RdL iv w0 A n xs) (hn : n ≤ 1048576) (h : decide (v ∈ xs) = b) {m : Nat} : Calls Try.prog 40 #[.slice A n c, .int .i64 v] (w0.drewN m) fun e w' => e = .returned (.bool b) ∧ ∃ k, w' = (w0.drewN m).drewN k := by
  rw [← h]; exact l1Has_any A n c xs v _ (RdL.drewN hx m) hn
end Go.Proofs.Ytlekmebfpfdllaa
