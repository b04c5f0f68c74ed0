/- FrameSends of the program and of the reference. Condition: tables of at most 1048576 numbers. -/
import Derived.Test.Ythfjlellaojdmaa5a
import Derived.Test.Ythfjlellaojdmaa5c
namespace Go.Proofs.Ythfjlellaojdmaa
open Go.RowKit
set_option linter.unusedSimpArgs false
set_option linter.unusedVariables false
theorem sends_flat (fr : List (List Int)) : 0 ≤ sendsL fr ∧ sendsL fr ≤ flat fr := by
  induction fr with
  | nil => simp [sendsL, flat]
  | cons r fr ih =>
    rw [sendsL_cons]
    have h := sendS_bd r
    have e : flat (r :: fr) = r.length + flat fr := by simp [flat]
    rw [e]; omega
theorem sends_take {fr : List (List Int)} {k : Nat} {r : List Int} (h : fr[k]? = some r) : sendsL (fr.take (k + 1)) = sendsL (fr.take k) + sendS r := by rw [take_snoc h, sendsL_snoc]
set_option maxHeartbeats 1000000 in
theorem impl_FrameSends0 (A : Option Addr) (n c : Nat) (rows : List (List Int)) (w : World) (hx : RdT w A n rows) (hs : SmT rows) :
    Calls Try.prog 16 #[.slice A n c] w fun e w' => e = .returned (.int .i64 (sendsL rows)) ∧ ∃ m, w' = w.drewN m := by
  have HL := hx.len
  have hn : n ≤ 1048576 := by rw [← HL.out]; exact hs.1
  have HS := Lib.hid hs; clear hs
  go_enter Try.func16, Try.ntmps16
  go_wp2
  go_loopg [3, 10] n (fun g s i wr => ∃ (k m : Nat) (S : Int), k ≤ n ∧ g = n - k ∧ i = .int .i64 k ∧ s = .int .i64 S ∧ Hid (S = sendsL (rows.take k)) ∧ wr = w.drewN m)
  case atStart => exact ⟨0, 0, 0, Nat.zero_le _, rfl, rfl, rfl, (by show _ = _; simp [sendsL]), rfl⟩
  case round =>
    obtain ⟨k, m, S, hk, rfl, rfl, rfl, HV, rfl⟩ := hrel
    by_cases hlt : k < n
    · obtain ⟨b, off, Ak, nk, ck, r, rfl, HX, hc, hrd, hnk⟩ := hx.at hlt
      have hrl := hrd.len
      have hb : 0 ≤ S ∧ S + nk ≤ 1048576 := by
        have h1 := sends_flat (rows.take k)
        have h2 := flatT_at HX.out
        have h3 := HS.out.2
        rw [hrl.out] at h2
        rw [HV.out]; omega
      obtain ⟨hb1, hb2⟩ := hb
      go_wp2
      go_loopg [3, 16] nk (fun g s i wr => ∃ (j q : Nat) (T : Int), j ≤ nk ∧ g = nk - j ∧ i = .int .i64 j ∧ s = .int .i64 T ∧ Hid (T = S + sendS (r.take j)) ∧ S ≤ T ∧ T ≤ S + j ∧ wr = w.drewN q)
      case atStart => exact ⟨0, m, S, Nat.zero_le _, rfl, rfl, rfl, (by show _ = _; simp [sendS]), Int.le_refl _, by omega, rfl⟩
      case round =>
        obtain ⟨j, q, T, hj, rfl, rfl, rfl, HT, hT1, hT2, rfl⟩ := hrel
        by_cases hjl : j < nk
        · obtain ⟨b2, off2, x, rfl, HX2, hcx⟩ := hrd.at hjl
          by_cases h0 : 0 ≤ x
          · have H0 := Lib.hid h0
            go_wp2
            go_roundg (nk - (j + 1))
            case rel => exact ⟨j + 1, q, T + 1, by omega, rfl, by go_num, by go_num, (by show _ = _; rw [sendS_take HX2.out, if_pos H0.out, HT.out]; omega), by omega, by omega, rfl⟩
            case measure => omega
          · have H0 := Lib.hid h0
            have h0z : decide (0 ≤ x) = false := by simpa using h0
            go_wp2
            go_roundg (nk - (j + 1))
            case rel => exact ⟨j + 1, q, T, by omega, rfl, by go_num, by go_num, (by show _ = _; have h4 := H0.out; rw [sendS_take HX2.out, if_neg (by omega), HT.out]; omega), by omega, by omega, rfl⟩
            case measure => omega
        · go_wp2
          go_roundg (n - (k + 1))
          case rel => exact ⟨k + 1, q, T, by omega, rfl, by go_num, rfl, (by show _ = _; have e : r.take j = r := List.take_of_length_le (by rw [hrl.out]; omega); rw [sends_take HX.out, HT.out, e, HV.out]), rfl⟩
          case measure => omega
    · go_wp2
      go_ret
      obtain rfl : k = n := by omega
      exact ⟨ret_int (by rw [HV.out, List.take_of_length_le (by rw [HL.out]; omega)]), _, rfl⟩
theorem impl_FrameSends (A : Option Addr) (n c : Nat) (rows : List (List Int)) (w : World) (hx : RdT w A n rows) (hc : n ≤ c) (hs : SmT rows) :
    Calls Try.prog 16 #[.slice A n c] w fun e w' => e = .returned (.int .i64 (sendsL rows)) ∧ Below w.heap.size w w' := quiet_bel (impl_FrameSends0 A n c rows w hx hs)
set_option maxHeartbeats 1000000 in
theorem spec_FrameSends0 (A : Option Addr) (n c : Nat) (rows : List (List Int)) (w : World) (hx : RdT w A n rows) (hs : SmT rows) :
    Calls Try.prog 35 #[.slice A n c] w fun e w' => e = .returned (.int .i64 (sendsL rows)) ∧ ∃ m, w' = w.drewN m := by
  have HL := hx.len
  have hn : n ≤ 1048576 := by rw [← HL.out]; exact hs.1
  have HS := Lib.hid hs; clear hs
  go_enter Try.func35, Try.ntmps35
  go_wp2
  go_loopg [3, 4] n (fun g s i wr => ∃ (k m : Nat) (S : Int), k ≤ n ∧ g = n - k ∧ i = .int .i64 k ∧ s = .int .i64 S ∧ Hid (S = sendsL (rows.take k)) ∧ wr = w.drewN m)
  case atStart => exact ⟨0, 0, 0, Nat.zero_le _, rfl, rfl, rfl, (by show _ = _; simp [sendsL]), rfl⟩
  case round =>
    obtain ⟨k, m, S, hk, rfl, rfl, rfl, HV, rfl⟩ := hrel
    by_cases hlt : k < n
    · obtain ⟨b, off, Ak, nk, ck, r, rfl, HX, hc, hrd, hnk⟩ := hx.at hlt
      have hrl := hrd.len
      have hb : 0 ≤ S ∧ S + nk ≤ 1048576 := by
        have h1 := sends_flat (rows.take k)
        have h2 := flatT_at HX.out
        have h3 := HS.out.2
        rw [hrl.out] at h2
        rw [HV.out]; omega
      obtain ⟨hb1, hb2⟩ := hb
      go_wp2
      go_loopg [3, 5] nk (fun g s i wr => ∃ (j q : Nat) (T : Int), j ≤ nk ∧ g = nk - j ∧ i = .int .i64 j ∧ s = .int .i64 T ∧ Hid (T = S + sendS (r.take j)) ∧ S ≤ T ∧ T ≤ S + j ∧ wr = w.drewN q)
      case atStart => exact ⟨0, m, S, Nat.zero_le _, rfl, rfl, rfl, (by show _ = _; simp [sendS]), Int.le_refl _, by omega, rfl⟩
      case round =>
        obtain ⟨j, q, T, hj, rfl, rfl, rfl, HT, hT1, hT2, rfl⟩ := hrel
        by_cases hjl : j < nk
        · obtain ⟨b2, off2, x, rfl, HX2, hcx⟩ := hrd.at hjl
          by_cases h0 : 0 ≤ x
          · have H0 := Lib.hid h0
            go_wp2
            go_roundg (nk - (j + 1))
            case rel => exact ⟨j + 1, q, T + 1, by omega, rfl, by go_num, by go_num, (by show _ = _; rw [sendS_take HX2.out, if_pos H0.out, HT.out]; omega), by omega, by omega, rfl⟩
            case measure => omega
          · have H0 := Lib.hid h0
            have h0z : decide (0 ≤ x) = false := by simpa using h0
            go_wp2
            go_roundg (nk - (j + 1))
            case rel => exact ⟨j + 1, q, T, by omega, rfl, by go_num, by go_num, (by show _ = _; have h4 := H0.out; rw [sendS_take HX2.out, if_neg (by omega), HT.out]; omega), by omega, by omega, rfl⟩
            case measure => omega
        · go_wp2
          go_roundg (n - (k + 1))
          case rel => exact ⟨k + 1, q, T, by omega, rfl, by go_num, rfl, (by show _ = _; have e : r.take j = r := List.take_of_length_le (by rw [hrl.out]; omega); rw [sends_take HX.out, HT.out, e, HV.out]), rfl⟩
          case measure => omega
    · go_wp2
      go_ret
      obtain rfl : k = n := by omega
      exact ⟨ret_int (by rw [HV.out, List.take_of_length_le (by rw [HL.out]; omega)]), _, rfl⟩
theorem spec_FrameSends (A : Option Addr) (n c : Nat) (rows : List (List Int)) (w : World) (hx : RdT w A n rows) (hc : n ≤ c) (hs : SmT rows) :
    Calls Try.prog 35 #[.slice A n c] w fun e w' => e = .returned (.int .i64 (sendsL rows)) ∧ Below w.heap.size w w' := quiet_bel (spec_FrameSends0 A n c rows w hx hs)
end Go.Proofs.Ythfjlellaojdmaa
