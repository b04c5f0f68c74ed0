/- sameCalls, busy, ascend and sameInts of the laws. Condition: at most 1048576 elements. -/
import Derived.Test.Ytcickfahpcmcdaa4e
namespace Go.Proofs.Ytcickfahpcmcdaa
open Go.RowKit
set_option linter.unusedSimpArgs false
set_option linter.unusedVariables false
theorem sameCalls_any (A A' : Option Addr) (n n' c c' : Nat) (xs ys : List Cl) (w : World) (hx : RdC w A n xs) (hy : RdC w A' n' ys) (hn : n ≤ 1048576) (hn' : n' ≤ 1048576) :
    Calls Try.prog 16 #[.slice A n c, .slice A' n' c'] w (RetB (xs = ys) w) := by
  have HL := hx.len
  have HL' := hy.len
  by_cases hne : n = n'
  · subst hne
    go_enter Try.func16, Try.ntmps16
    go_wp2
    go_loopg [5] n (fun g i wr => ∃ k m : Nat, k ≤ n ∧ g = n - k ∧ i = .int .i64 k ∧ Hid (xs.take k = ys.take k) ∧ wr = w.drewN m)
    case atStart => exact ⟨0, 0, Nat.zero_le _, rfl, rfl, rfl, rfl⟩
    case round =>
      obtain ⟨k, m, hk, rfl, rfl, hall, rfl⟩ := hrel
      by_cases hlt : k < n
      · obtain ⟨b, off, x, rfl, HX, g0, g1, g2⟩ := RdC.at hx hlt
        obtain ⟨b', off', y, rfl, HY, g0', g1', g2'⟩ := RdC.at hy hlt
        by_cases hxy : x = y
        · subst hxy
          go_wp2
          go_quiet (fail)
          go_wp2
          go_roundg (n - (k + 1))
          case rel => exact ⟨k + 1, _, by omega, rfl, by go_num, take_eq_snoc hall.out HX.out HY.out, rfl⟩
          case measure => omega
        · have HN := Lib.hid hxy
          have hcs : (x.i ≠ y.i) ∨ (x.i = y.i ∧ x.o ≠ y.o) ∨ (x.i = y.i ∧ x.o = y.o ∧ x.v ≠ y.v) := by
            by_cases h1 : x.i = y.i
            · by_cases h2 : x.o = y.o
              · exact .inr (.inr ⟨h1, h2, fun h3 => hxy (cl_ext h1 h2 h3)⟩)
              · exact .inr (.inl ⟨h1, h2⟩)
            · exact .inl h1
          clear hxy
          rcases hcs with h1 | ⟨h1, h2⟩ | ⟨h1, h2, h3⟩
          · have z1 : (x.i == y.i) = false := by simp [h1]
            go_wp2
            go_quiet (fail)
            go_wp2
            go_ret
            exact RetB.no2 (ne_of_at HX.out HY.out HN.out) _ _
          · have z1 : (x.i == y.i) = true := by simp [h1]
            have z2 : (x.o == y.o) = false := by simp [h2]
            clear h1
            go_wp2
            go_quiet (fail)
            go_wp2
            go_ret
            exact RetB.no2 (ne_of_at HX.out HY.out HN.out) _ _
          · have z1 : (x.i == y.i) = true := by simp [h1]
            have z2 : (x.o == y.o) = true := by simp [h2]
            have z3 : (x.v == y.v) = false := by simp [h3]
            clear h1 h2
            go_wp2
            go_quiet (fail)
            go_wp2
            go_ret
            exact RetB.no2 (ne_of_at HX.out HY.out HN.out) _ _
      · go_wp2
        go_ret
        exact RetB.yes (eq_of_take hall.out (by rw [HL.out]; omega) (by rw [HL'.out]; omega)) _
  · go_enter Try.func16, Try.ntmps16
    go_wp2
    go_ret
    exact RetB.no (fun e => hne (by rw [← HL.out, ← HL'.out, e])) 0
theorem busy_any (A : Option Addr) (n c : Nat) (xs : List Cl) (i q : Int) (w : World) (hx : RdC w A n xs) (hn : n ≤ 1048576) :
    Calls Try.prog 20 #[.slice A n c, .int .i64 i, .int .i64 q] w (RetB (∃ c ∈ xs, c.i = i ∨ c.o = q) w) := by
  have HL := hx.len
  go_enter Try.func20, Try.ntmps20
  go_wp2
  go_loopg [7] n (fun g s wr => ∃ k m : Nat, k ≤ n ∧ g = n - k ∧ s = .int .i64 k ∧ Hid (∀ c ∈ xs.take k, c.i ≠ i ∧ c.o ≠ q) ∧ wr = w.drewN m)
  case atStart => exact ⟨0, 0, Nat.zero_le _, rfl, rfl, (fun c h => by simp at h), rfl⟩
  case round =>
    obtain ⟨k, m, hk, rfl, rfl, hall, rfl⟩ := hrel
    by_cases hlt : k < n
    · obtain ⟨b, off, x, rfl, HX, g0, g1, g2⟩ := RdC.at hx hlt
      by_cases h1 : x.i = i
      · have HE : Hid (∃ c ∈ xs, c.i = i ∨ c.o = q) := ⟨x, List.mem_of_getElem? HX.out, .inl h1⟩
        have hz : (x.i == i) = true := by simp [h1]
        clear h1
        go_wp2
        go_ret
        exact RetB.yes HE.out _
      · have hz : (x.i == i) = false := by simp [h1]
        by_cases h2 : x.o = q
        · have HE : Hid (∃ c ∈ xs, c.i = i ∨ c.o = q) := ⟨x, List.mem_of_getElem? HX.out, .inr h2⟩
          have hz2 : (x.o == q) = true := by simp [h2]
          clear h1 h2
          go_wp2
          go_ret
          exact RetB.yes HE.out _
        · have hz2 : (x.o == q) = false := by simp [h2]
          have HE := Lib.hid (And.intro h1 h2)
          clear h1 h2
          go_wp2
          go_roundg (n - (k + 1))
          case rel =>
            refine ⟨k + 1, m, by omega, rfl, by go_num, (fun c hc => ?_), rfl⟩
            rw [take_snoc HX.out] at hc
            rcases List.mem_append.1 hc with h | h
            · exact hall.out c h
            · simp at h; subst h; exact HE.out
          case measure => omega
    · go_wp2
      go_ret
      refine RetB.no (fun ⟨c, hc, h⟩ => ?_) _
      have := hall.out c (by rw [List.take_of_length_le (by rw [HL.out]; omega)]; exact hc)
      rcases h with h | h
      · exact this.1 h
      · exact this.2 h
def Asc (xs : List Int) : Prop := ∀ (k : Nat) x y, xs[k]? = some x → xs[k + 1]? = some y → x < y
theorem ascend_any (A : Option Addr) (n c : Nat) (xs : List Int) (w : World) (hx : RdL iv w A n xs) (hn : n ≤ 1048576) :
    Calls Try.prog 42 #[.slice A n c] w (RetB (Asc xs) w) := by
  have HL := hx.len
  go_enter Try.func42, Try.ntmps42
  go_wp2
  go_loopg [3] n (fun g s wr => ∃ k m : Nat, (k < n ∨ k = 0) ∧ g = n - k ∧ s = .int .i64 (k + 1) ∧ Hid (∀ (j : Nat) x y, j < k → xs[j]? = some x → xs[j + 1]? = some y → x < y) ∧ wr = w.drewN m)
  case atStart => exact ⟨0, 0, .inr rfl, rfl, rfl, (fun j x y h => by omega), rfl⟩
  case round =>
    obtain ⟨k, m, hk, rfl, rfl, hall, rfl⟩ := hrel
    by_cases hlt : k + 1 < n
    · obtain ⟨b, off, x, rfl, HX, g⟩ := hx.at (k := k) (by omega)
      obtain ⟨b', off', y, hA, HY, g'⟩ := hx.at (k := k + 1) hlt
      injection hA with hA; injection hA with hA1 hA2; subst hA1 hA2
      have e1 : IntKind.i64.wrap ((k : Int) + 1 - 1) = (k : Int) := by rw [IntWalk.i64_in _ (by omega)]; omega
      by_cases h1 : x < y
      · have hz : decide (y ≤ x) = false := by simp; omega
        have HE := Lib.hid h1; clear h1
        go_wp2
        go_quiet (fail)
        clear e1
        go_wp2
        go_roundg (n - (k + 1))
        case rel =>
          refine ⟨k + 1, _, .inl hlt, rfl, by go_num, (fun j x' y' hj hx' hy' => ?_), rfl⟩
          rcases (by omega : j < k ∨ j = k) with h | rfl
          · exact hall.out j x' y' h hx' hy'
          · rw [HX.out] at hx'; rw [HY.out] at hy'; injection hx' with hx'; injection hy' with hy'; subst hx' hy'; exact HE.out
        case measure => omega
      · have HE := Lib.hid h1
        have hz : decide (y ≤ x) = true := by simp; omega
        clear h1
        go_wp2
        go_quiet (fail)
        clear e1
        go_wp2
        go_ret
        exact RetB.no2 (fun h => absurd (h k x y HX.out HY.out) (by have := HE.out; omega)) _ _
    · go_wp2
      go_ret
      refine RetB.yes (fun j x y hx' hy' => ?_) _
      have h1 := (List.getElem?_eq_some_iff.1 hy').1
      have h2 := HL.out
      exact hall.out j x y (by omega) hx' hy'
theorem sameInts_any (A A' : Option Addr) (n n' c c' : Nat) (xs ys : List Int) (w : World) (hx : RdL iv w A n xs) (hy : RdL iv w A' n' ys) (hn : n ≤ 1048576) (hn' : n' ≤ 1048576) :
    Calls Try.prog 40 #[.slice A n c, .slice A' n' c'] w (RetB (xs = ys) w) := by
  have HL := hx.len
  have HL' := hy.len
  by_cases hne : n = n'
  · subst hne
    go_enter Try.func40, Try.ntmps40
    go_wp2
    go_loopg [5] n (fun g i wr => ∃ k m : Nat, k ≤ n ∧ g = n - k ∧ i = .int .i64 k ∧ Hid (xs.take k = ys.take k) ∧ wr = w.drewN m)
    case atStart => exact ⟨0, 0, Nat.zero_le _, rfl, rfl, rfl, rfl⟩
    case round =>
      obtain ⟨k, m, hk, rfl, rfl, hall, rfl⟩ := hrel
      by_cases hlt : k < n
      · obtain ⟨b, off, x, rfl, HX, g⟩ := hx.at hlt
        obtain ⟨b', off', y, rfl, HY, g'⟩ := hy.at hlt
        by_cases hxy : x = y
        · subst hxy
          go_wp2
          go_quiet (fail)
          go_wp2
          go_roundg (n - (k + 1))
          case rel => exact ⟨k + 1, _, by omega, rfl, by go_num, take_eq_snoc hall.out HX.out HY.out, rfl⟩
          case measure => omega
        · have hxy' : (x != y) = true := by simp [hxy]
          go_wp2
          go_quiet (fail)
          go_wp2
          go_ret
          exact RetB.no2 (ne_of_at HX.out HY.out hxy) _ _
      · go_wp2
        go_ret
        exact RetB.yes (eq_of_take hall.out (by rw [HL.out]; omega) (by rw [HL'.out]; omega)) _
  · go_enter Try.func40, Try.ntmps40
    go_wp2
    go_ret
    exact RetB.no (fun e => hne (by rw [← HL.out, ← HL'.out, e])) 0
end Go.Proofs.Ytcickfahpcmcdaa
