/- sameInts, sameBools, hasInt and whole of the laws. Condition: at most 1048576 elements. -/
import Derived.Test.Ytiahpaakkijejaa3d
namespace Go.Proofs.Ytiahpaakkijejaa
open Go.RowKit
set_option linter.unusedSimpArgs false
set_option linter.unusedVariables false
theorem sameInts_any (A A' : Option Addr) (n n' c c' : Nat) (xs ys : List Int) (w : World) (hx : RdL iv w A n xs) (hy : RdL iv w A' n' ys) (hn : n ≤ 1048576) (hn' : n' ≤ 1048576) :
    Calls Try.prog 17 #[.slice A n c, .slice A' n' c'] w (RetB (xs = ys) w) := by
  have HL := hx.len
  have HL' := hy.len
  by_cases hne : n = n'
  · subst hne
    go_enter Try.func17, Try.ntmps17
    go_wp2
    go_loopg [5] n (fun g i wr => ∃ k m : Nat, k ≤ n ∧ g = n - k ∧ i = .int .i64 k ∧ Hid (xs.take k = ys.take k) ∧ wr = w.drewN m)
    case atStart => exact ⟨0, 0, Nat.zero_le _, rfl, rfl, rfl, rfl⟩
    case round =>
      obtain ⟨k, m, hk, rfl, rfl, hall, rfl⟩ := hrel
      by_cases hlt : k < n
      · obtain ⟨b, off, x, rfl, HX, g⟩ := hx.at hlt
        obtain ⟨b', off', y, rfl, HY, g'⟩ := hy.at hlt
        by_cases hxy : x = y
        · subst hxy
          go_wp2
          go_quiet (fail)
          go_wp2
          go_roundg (n - (k + 1))
          case rel => exact ⟨k + 1, _, by omega, rfl, by go_num, take_eq_snoc hall.out HX.out HY.out, rfl⟩
          case measure => omega
        · have hxy' : (x != y) = true := by simp [hxy]
          go_wp2
          go_quiet (fail)
          go_wp2
          go_ret
          exact RetB.no2 (ne_of_at HX.out HY.out hxy) _ _
      · go_wp2
        go_ret
        exact RetB.yes (eq_of_take hall.out (by rw [HL.out]; omega) (by rw [HL'.out]; omega)) _
  · go_enter Try.func17, Try.ntmps17
    go_wp2
    go_ret
    exact RetB.no (fun e => hne (by rw [← HL.out, ← HL'.out, e])) 0
theorem sameBools_any (A A' : Option Addr) (n n' c c' : Nat) (xs ys : List Bool) (w : World) (hx : RdL bv w A n xs) (hy : RdL bv w A' n' ys) (hn : n ≤ 1048576) (hn' : n' ≤ 1048576) :
    Calls Try.prog 41 #[.slice A n c, .slice A' n' c'] w (RetB (xs = ys) w) := by
  have HL := hx.len
  have HL' := hy.len
  by_cases hne : n = n'
  · subst hne
    go_enter Try.func41, Try.ntmps41
    go_wp2
    go_loopg [5] n (fun g i wr => ∃ k m : Nat, k ≤ n ∧ g = n - k ∧ i = .int .i64 k ∧ Hid (xs.take k = ys.take k) ∧ wr = w.drewN m)
    case atStart => exact ⟨0, 0, Nat.zero_le _, rfl, rfl, rfl, rfl⟩
    case round =>
      obtain ⟨k, m, hk, rfl, rfl, hall, rfl⟩ := hrel
      by_cases hlt : k < n
      · obtain ⟨b, off, x, rfl, HX, g⟩ := hx.at hlt
        obtain ⟨b', off', y, rfl, HY, g'⟩ := hy.at hlt
        cases x with
        | false =>
          cases y with
          | false =>
              go_wp2
              go_quiet (fail)
              go_wp2
              go_roundg (n - (k + 1))
              case rel => exact ⟨k + 1, _, by omega, rfl, by go_num, take_eq_snoc hall.out HX.out HY.out, rfl⟩
              case measure => omega
          | true =>
              go_wp2
              go_quiet (fail)
              go_wp2
              go_ret
              exact RetB.no2 (ne_of_at HX.out HY.out (by simp)) _ _
        | true =>
          cases y with
          | false =>
              go_wp2
              go_quiet (fail)
              go_wp2
              go_ret
              exact RetB.no2 (ne_of_at HX.out HY.out (by simp)) _ _
          | true =>
              go_wp2
              go_quiet (fail)
              go_wp2
              go_roundg (n - (k + 1))
              case rel => exact ⟨k + 1, _, by omega, rfl, by go_num, take_eq_snoc hall.out HX.out HY.out, rfl⟩
              case measure => omega
      · go_wp2
        go_ret
        exact RetB.yes (eq_of_take hall.out (by rw [HL.out]; omega) (by rw [HL'.out]; omega)) _
  · go_enter Try.func41, Try.ntmps41
    go_wp2
    go_ret
    exact RetB.no (fun e => hne (by rw [← HL.out, ← HL'.out, e])) 0
theorem hasInt_any (A : Option Addr) (n c : Nat) (xs : List Int) (q : Int) (w : World) (hx : RdL iv w A n xs) (hn : n ≤ 1048576) :
    Calls Try.prog 64 #[.slice A n c, .int .i64 q] w (RetB (q ∈ xs) w) := by
  have HL := hx.len
  go_enter Try.func64, Try.ntmps64
  go_wp2
  go_loopg [5] n (fun g s wr => ∃ k m : Nat, k ≤ n ∧ g = n - k ∧ s = .int .i64 k ∧ Hid (q ∉ xs.take k) ∧ wr = w.drewN m)
  case atStart => exact ⟨0, 0, Nat.zero_le _, rfl, rfl, (by show _ ∉ _; simp), rfl⟩
  case round =>
    obtain ⟨k, m, hk, rfl, rfl, hall, rfl⟩ := hrel
    by_cases hlt : k < n
    · obtain ⟨b, off, x, rfl, HX, g⟩ := hx.at hlt
      by_cases h1 : x = q
      · have HE : Hid (q ∈ xs) := by subst h1; exact List.mem_of_getElem? HX.out
        have hz : (x == q) = true := by simp [h1]
        clear h1
        go_wp2
        go_ret
        exact RetB.yes HE.out _
      · have hz : (x == q) = false := by simp [h1]
        have HE := Lib.hid h1
        clear h1
        go_wp2
        go_roundg (n - (k + 1))
        case rel =>
          refine ⟨k + 1, m, by omega, rfl, by go_num, (fun hc => ?_), rfl⟩
          rw [take_snoc HX.out] at hc
          rcases List.mem_append.1 hc with h | h
          · exact hall.out h
          · simp at h; exact HE.out h.symm
        case measure => omega
    · go_wp2
      go_ret
      refine RetB.no (fun hc => ?_) _
      exact hall.out (by rw [List.take_of_length_le (by rw [HL.out]; omega)]; exact hc)
theorem whole_yes (A : Option Addr) (n c : Nat) (xs : List Int) (w : World) (hx : RdL iv w A n xs) (hc : n ≤ c) (hn : n ≤ 1048576) (hp : PermOk xs) :
    Calls Try.prog 33 #[.slice A n c] w fun e w' => e = .returned (.bool true) ∧ ∃ m, w' = w.drewN m := by
  have HL := hx.len
  have HP := Lib.hid hp; clear hp
  go_enter Try.func33, Try.ntmps33
  go_wp2
  go_loopg [3] n (fun g s wr => ∃ k m : Nat, k ≤ n ∧ g = n - k ∧ s = .int .i64 k ∧ wr = w.drewN m)
  case atStart => exact ⟨0, 0, Nat.zero_le _, rfl, rfl, rfl⟩
  case round =>
    obtain ⟨k, m, hk, rfl, rfl, rfl⟩ := hrel
    by_cases hlt : k < n
    · obtain ⟨b, off, x, rfl, HX, g⟩ := hx.at hlt
      have hpx := HP.out k x HX.out
      rw [HL.out] at hpx
      obtain ⟨h0, h1, h2⟩ := hpx
      have H2 := Lib.hid h2; clear h2
      have z1 : decide (x < 0) = false := decide_eq_false (by omega)
      have z2 : decide ((n : Int) ≤ x) = false := decide_eq_false (by omega)
      have hxt := RdL.take hx (k := k) (by omega)
      have key : ∀ q : Nat, Calls Try.prog 64 #[.slice (some ⟨b, off, none⟩) k c, .int .i64 x] (w.drewN q) fun e w' => e = .returned (.bool false) ∧ ∃ m, w' = (w.drewN q).drewN m := fun q => (hasInt_any _ k c (xs.take k) x _ (hxt.drewN _) (by omega)).mono fun _ _ ⟨b', he, hb', m, hm⟩ => ⟨by rw [he]; congr 2; cases b' with
        | false => rfl
        | true => exact absurd (hb'.out.1 rfl) H2.out, m, hm⟩
      go_wp2
      go_quiet ((go_at_call 64; exact quiet_add (key _)))
      go_wp2
      go_roundg (n - (k + 1))
      case rel => exact ⟨k + 1, _, by omega, rfl, by go_num, rfl⟩
      case measure => omega
    · go_wp2
      go_ret
      exact ⟨rfl, _, rfl⟩
end Go.Proofs.Ytiahpaakkijejaa
