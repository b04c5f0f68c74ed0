/- Contracts of the small helper functions that copy and compare lists: toXS copies, eqXS compares; l1In tests a range. Condition: lists of at most 1048576 elements. -/
import Derived.Test.YtiahpaakkijejaaRows
import Derived.Test.YtiahpaakkijejaaMem
namespace Go.Proofs.Ytiahpaakkijejaa
open Go.RowKit
set_option linter.unusedSimpArgs false
set_option linter.unusedVariables false

def inB (n lo hi : Int) : Bool := decide (lo ≤ n) && decide (n ≤ hi)
theorem l1In_any (n lo hi : Int) (w : World) : Calls Try.prog 49 #[.int .i64 n, .int .i64 lo, .int .i64 hi] w fun e w' => e = .returned (.bool (inB n lo hi)) ∧ ∃ m, w' = w.drewN m := by
  unfold inB
  by_cases h1 : lo ≤ n <;> by_cases h2 : n ≤ hi
  all_goals
    go_enter Try.func49, Try.ntmps49
    go_wp2
    go_ret
    exact ⟨by simp [*], 0, rfl⟩
abbrev sv : ByteArray → Value := Value.string
theorem bytes_ext {x y : ByteArray} (h : x.toList = y.toList) : x = y := by
  rw [ByteArray.toList_eq] at h
  rw [ByteArray.toList_eq] at h
  cases x; cases y; simp_all

theorem info_int : (Try.prog.info? 3).map (fun i => (i.zero, i.size, i.bytes)) = some (some (.int .i64 0), 1, 8) := by kernel_rfl
theorem toIntS_any (A : Option Addr) (n c : Nat) (xs : List Int) (w : World) (hx : RdL iv w A n xs) (hn : n ≤ 1048576) :
    Calls Try.prog 30 #[.slice A n c] w fun e w' => ∃ A' c', e = .returned (.slice A' n c') ∧ OwnL iv w' w.heap.size 3 A' n c' xs ∧ Below w.heap.size w w' := by
  have HL := hx.len
  have hmk := run_make_row' (P := Try.prog) 25 3 (.int .i64 0) 8 Try.underlying25 info_int rfl .i64 .i64 n (by omega) (by omega)
  go_enter Try.func30, Try.ntmps30
  go_wp2
  clear hmk
  go_loopg [4] n (fun g i wr => ∃ k : Nat, k ≤ n ∧ g = n - k ∧ i = .int .i64 k ∧ OwnL iv wr w.heap.size 3 (some ⟨w.heap.size, 0, none⟩) n n (xs.take k ++ List.replicate (n - k) 0) ∧ Below w.heap.size w wr)
  case atStart => exact ⟨0, Nat.zero_le _, rfl, rfl, OwnL.made w 0 n (by unfold maxLen; omega) _ (Nat.le_refl _), (Below.refl _ _).alloc (Nat.le_refl _) _⟩
  case round =>
    obtain ⟨k, hk, rfl, rfl, hown, hbel⟩ := hrel
    by_cases hlt : k < n
    · obtain ⟨b, off, x, rfl, HX, g⟩ := (hx.below hbel (Nat.le_refl _)).at hlt
      obtain ⟨g', y, hA, hB, hg', HY, gc, gf⟩ := hown.at hlt
      injection hA with hA; injection hA with hA; subst hA
      go_wp2
      go_roundg (n - (k + 1))
      case rel => exact ⟨k + 1, by omega, rfl, by go_num, by rw [← set_fill HL.out hlt HX.out]; exact hown.set k x, hbel.setCell (Nat.le_refl _) _⟩
      case measure => omega
    · go_wp2
      go_ret
      obtain rfl : k = n := by omega
      refine ⟨_, _, rfl, ?_, hbel⟩
      rw [Nat.sub_self, List.take_of_length_le (by rw [HL.out]; exact Nat.le_refl _)] at hown
      simpa using hown
theorem eqIntS_any (A A' : Option Addr) (n n' c c' : Nat) (xs ys : List Int) (w : World) (hx : RdL iv w A n xs) (hy : RdL iv w A' n' ys) (hn : n ≤ 1048576) (hn' : n' ≤ 1048576) :
    Calls Try.prog 22 #[.slice A n c, .slice A' n' c'] w (RetB (xs = ys) w) := by
  have HL := hx.len
  have HL' := hy.len
  by_cases hne : n = n'
  · subst hne
    go_enter Try.func22, Try.ntmps22
    go_wp2
    go_loopg [5] n (fun g i wr => ∃ k m : Nat, k ≤ n ∧ g = n - k ∧ i = .int .i64 k ∧ Hid (xs.take k = ys.take k) ∧ wr = w.drewN m)
    case atStart => exact ⟨0, 0, Nat.zero_le _, rfl, rfl, rfl, rfl⟩
    case round =>
      obtain ⟨k, m, hk, rfl, rfl, hall, rfl⟩ := hrel
      by_cases hlt : k < n
      · obtain ⟨b, off, x, rfl, HX, g⟩ := hx.at hlt
        obtain ⟨b', off', y, rfl, HY, g'⟩ := hy.at hlt
        by_cases hxy : x = y
        · subst hxy
          go_wp2
          go_quiet (fail)
          go_wp2
          go_roundg (n - (k + 1))
          case rel => exact ⟨k + 1, _, by omega, rfl, by go_num, take_eq_snoc hall.out HX.out HY.out, rfl⟩
          case measure => omega
        · have hxy' : (x != y) = true := by simp [hxy]
          go_wp2
          go_quiet (fail)
          go_wp2
          go_ret
          exact RetB.no2 (ne_of_at HX.out HY.out hxy) _ _
      · go_wp2
        go_ret
        exact RetB.yes (eq_of_take hall.out (by rw [HL.out]; omega) (by rw [HL'.out]; omega)) _
  · go_enter Try.func22, Try.ntmps22
    go_wp2
    go_ret
    exact RetB.no (fun e => hne (by rw [← HL.out, ← HL'.out, e])) 0


theorem info_bool : (Try.prog.info? 4).map (fun i => (i.zero, i.size, i.bytes)) = some (some (.bool false), 1, 1) := by kernel_rfl
theorem toBoolS_any (A : Option Addr) (n c : Nat) (xs : List Bool) (w : World) (hx : RdL bv w A n xs) (hn : n ≤ 1048576) :
    Calls Try.prog 20 #[.slice A n c] w fun e w' => ∃ A' c', e = .returned (.slice A' n c') ∧ OwnL bv w' w.heap.size 4 A' n c' xs ∧ Below w.heap.size w w' := by
  have HL := hx.len
  have hmk := run_make_row' (P := Try.prog) 31 4 (.bool false) 1 Try.underlying31 info_bool rfl .i64 .i64 n (by omega) (by omega)
  go_enter Try.func20, Try.ntmps20
  go_wp2
  clear hmk
  go_loopg [4] n (fun g i wr => ∃ k : Nat, k ≤ n ∧ g = n - k ∧ i = .int .i64 k ∧ OwnL bv wr w.heap.size 4 (some ⟨w.heap.size, 0, none⟩) n n (xs.take k ++ List.replicate (n - k) false) ∧ Below w.heap.size w wr)
  case atStart => exact ⟨0, Nat.zero_le _, rfl, rfl, OwnL.made w false n (by unfold maxLen; omega) _ (Nat.le_refl _), (Below.refl _ _).alloc (Nat.le_refl _) _⟩
  case round =>
    obtain ⟨k, hk, rfl, rfl, hown, hbel⟩ := hrel
    by_cases hlt : k < n
    · obtain ⟨b, off, x, rfl, HX, g⟩ := (hx.below hbel (Nat.le_refl _)).at hlt
      obtain ⟨g', y, hA, hB, hg', HY, gc, gf⟩ := hown.at hlt
      injection hA with hA; injection hA with hA; subst hA
      go_wp2
      go_roundg (n - (k + 1))
      case rel => exact ⟨k + 1, by omega, rfl, by go_num, by rw [← set_fill HL.out hlt HX.out]; exact hown.set k x, hbel.setCell (Nat.le_refl _) _⟩
      case measure => omega
    · go_wp2
      go_ret
      obtain rfl : k = n := by omega
      refine ⟨_, _, rfl, ?_, hbel⟩
      rw [Nat.sub_self, List.take_of_length_le (by rw [HL.out]; exact Nat.le_refl _)] at hown
      simpa using hown
theorem eqBoolS_any (A A' : Option Addr) (n n' c c' : Nat) (xs ys : List Bool) (w : World) (hx : RdL bv w A n xs) (hy : RdL bv w A' n' ys) (hn : n ≤ 1048576) (hn' : n' ≤ 1048576) :
    Calls Try.prog 23 #[.slice A n c, .slice A' n' c'] w (RetB (xs = ys) w) := by
  have HL := hx.len
  have HL' := hy.len
  by_cases hne : n = n'
  · subst hne
    go_enter Try.func23, Try.ntmps23
    go_wp2
    go_loopg [5] n (fun g i wr => ∃ k m : Nat, k ≤ n ∧ g = n - k ∧ i = .int .i64 k ∧ Hid (xs.take k = ys.take k) ∧ wr = w.drewN m)
    case atStart => exact ⟨0, 0, Nat.zero_le _, rfl, rfl, rfl, rfl⟩
    case round =>
      obtain ⟨k, m, hk, rfl, rfl, hall, rfl⟩ := hrel
      by_cases hlt : k < n
      · obtain ⟨b, off, x, rfl, HX, g⟩ := hx.at hlt
        obtain ⟨b', off', y, rfl, HY, g'⟩ := hy.at hlt
        by_cases hxy : x = y
        · subst hxy
          go_wp2
          go_quiet (fail)
          go_wp2
          go_roundg (n - (k + 1))
          case rel => exact ⟨k + 1, _, by omega, rfl, by go_num, take_eq_snoc hall.out HX.out HY.out, rfl⟩
          case measure => omega
        · cases x <;> cases y <;> first
            | exact absurd rfl hxy
            | (go_wp2
               go_quiet (fail)
               go_wp2
               go_ret
               exact RetB.no2 (ne_of_at HX.out HY.out hxy) _ _)
      · go_wp2
        go_ret
        exact RetB.yes (eq_of_take hall.out (by rw [HL.out]; omega) (by rw [HL'.out]; omega)) _
  · go_enter Try.func23, Try.ntmps23
    go_wp2
    go_ret
    exact RetB.no (fun e => hne (by rw [← HL.out, ← HL'.out, e])) 0



end Go.Proofs.Ytiahpaakkijejaa
