/- firstUnused, callFrom and callTo of the program. Condition: at most 1048576 calls on lines from 0 to 11. -/
import Derived.Test.Ytcickfahpcmcdaa4pv
namespace Go.Proofs.Ytcickfahpcmcdaa
open Go.RowKit
set_option linter.unusedSimpArgs false
set_option linter.unusedVariables false
def RetI (P : Int → Prop) (w : World) (x : Ending) (w' : World) : Prop := ∃ r : Int, x = .returned (.int .i64 r) ∧ Hid (P r) ∧ Below w.heap.size w w'
theorem firstV_found {m k : Nat} {f : Int → Bool} (hk : k < m) (hb : ∀ j : Nat, j < k → f j = true) (hf : f k = false) : firstV m f = k := by
  unfold firstV
  have : (upto (m : Int).toNat).find? (fun v => !f v) = some (k : Int) := by
    rw [List.find?_eq_some_iff_getElem]
    refine ⟨by simp [hf], k, by rw [len_upto]; omega, ?_, fun j hj => ?_⟩
    · have := upto_at (n := (m : Int).toNat) (k := k) (by omega)
      exact (List.getElem?_eq_some_iff.1 this).2
    · have h1 := upto_at (n := (m : Int).toNat) (k := j) (by omega)
      have h2 := (List.getElem?_eq_some_iff.1 h1).2
      rw [h2, hb j hj]; rfl
  rw [this]; rfl
theorem firstV_none {m : Nat} {f : Int → Bool} (hb : ∀ j : Nat, j < m → f j = true) : firstV m f = -1 := by
  unfold firstV
  have : (upto (m : Int).toNat).find? (fun v => !f v) = none := by
    rw [List.find?_eq_none]
    intro v hv
    have := mem_upto.1 hv
    obtain ⟨j, rfl⟩ := Int.eq_ofNat_of_zero_le this.1
    simp [hb j (by omega)]
  rw [this]; rfl
theorem impl_firstUnused (A : Option Addr) (n c : Nat) (f : Int → Bool) (w : World) (hx : RdL bv w A n (tabOf f n)) (hn : n ≤ 1048576) :
    Calls Try.prog 52 #[.slice A n c] w fun x w' => x = .returned (.int .i64 (firstV n f)) ∧ Below w.heap.size w w' := by
  go_enter Try.func52, Try.ntmps52
  go_wp2
  go_loopg [7] n (fun g i' wr => ∃ k m : Nat, k ≤ n ∧ g = n - k ∧ i' = .int .i64 k ∧ Hid (∀ j : Nat, j < k → f j = true) ∧ wr = w.drewN m)
  case atStart => exact ⟨0, 0, Nat.zero_le _, rfl, rfl, fun j hj => absurd hj (Nat.not_lt_zero _), rfl⟩
  case round =>
    obtain ⟨k, m, hk, rfl, rfl, HB, rfl⟩ := hrel
    by_cases hlt : k < n
    · obtain ⟨b, off, z, rfl, HZ, g⟩ := hx.at hlt
      have HE : Hid (f k = z) := by show _ = _; have := HZ.out; rw [tab_at hlt] at this; injection this
      cases z with
      | true =>
        go_wp2
        go_roundg (n - (k + 1))
        case rel => exact ⟨k + 1, m, by omega, rfl, by go_num, (fun j hj => by rcases (by omega : j < k ∨ j = k) with h | rfl; · exact HB.out j h
                                                                               · exact HE.out), rfl⟩
        case measure => omega
      | false =>
        go_wp2
        go_ret
        exact ⟨ret_int (firstV_found hlt HB.out HE.out).symm, below_drewN (Below.refl _ _) _⟩
    · obtain rfl : k = n := by omega
      go_wp2
      go_ret
      exact ⟨ret_int (firstV_none HB.out).symm, below_drewN (Below.refl _ _) _⟩
/-- Where a call is found. -/
def FoundF (e : Int) (ys : List Cl) (x v nt : Int) (r : Int) : Prop :=
  (r = -1 ∧ ∀ (k : Nat) c, ys[k]? = some c → (k : Int) ≠ nt → c.v = v → c.i / e ≠ x) ∨ ∃ (k : Nat) (c : Cl), r = (k : Int) ∧ ys[k]? = some c ∧ (k : Int) ≠ nt ∧ c.v = v ∧ c.i / e = x
def NoF (e : Int) (ys : List Cl) (x v nt : Int) (n : Nat) : Prop := ∀ (k : Nat) c, k < n → ys[k]? = some c → (k : Int) ≠ nt → c.v = v → c.i / e ≠ x
theorem NoF.succ {e : Int} {ys : List Cl} {x v nt : Int} {n : Nat} {y : Cl} (h : NoF e ys x v nt n) (hy : ys[n]? = some y) (hc : (n : Int) = nt ∨ y.v ≠ v ∨ y.i / e ≠ x) : NoF e ys x v nt (n + 1) := by
  intro k c hk hcc hne hv
  rcases (by omega : k < n ∨ k = n) with h1 | rfl
  · exact h k c h1 hcc hne hv
  · rw [hy] at hcc; injection hcc with hcc; subst hcc
    rcases hc with h2 | h2 | h2
    · exact absurd h2 hne
    · exact absurd hv h2
    · exact h2
set_option maxHeartbeats 1000000 in
theorem impl_callFrom (o e m : Int) (A : Option Addr) (n c : Nat) (ys : List Cl) (x v nt : Int) (w : World) (hx : RdC w A n ys) (hn : n ≤ 1048576) (he : 1 ≤ e) (hl : ∀ c ∈ ys, 0 ≤ c.i ∧ c.i ≤ 1000) :
    Calls Try.prog 56 #[shv o e m, .slice A n c, .int .i64 x, .int .i64 v, .int .i64 nt] w (RetI (FoundF e ys x v nt) w) := by
  have HL := hx.len
  have HLL := Lib.hid hl; clear hl
  have B0 := below_box w (.cells #[.int .i64 o, .int .i64 e, .int .i64 m] 24)
  have S0 := ShAt.new w o e m
  obtain ⟨W, HW⟩ : ∃ W, Hid (W = w.alloc (.cells #[.int .i64 o, .int .i64 e, .int .i64 m] 24)) := ⟨_, rfl⟩
  rw [← HW.out] at S0 B0
  go_enter Try.func56, Try.ntmps56
  go_wp2
  rw [← HW.out]
  go_loopg [15] n (fun g i' wr => ∃ k : Nat, k ≤ n ∧ g = n - k ∧ i' = .int .i64 k ∧ Hid (NoF e ys x v nt k) ∧ Below W.heap.size W wr)
  case atStart => exact ⟨0, Nat.zero_le _, rfl, rfl, fun k c hk => absurd hk (Nat.not_lt_zero _), Below.refl _ _⟩
  case round =>
    obtain ⟨k, hk, rfl, rfl, HN, hbel⟩ := hrel
    have BO := bstep B0 hbel
    have SO := S0.below hbel
    by_cases hlt : k < n
    · obtain ⟨b, off, y, rfl, HY, g0, g1, g2⟩ := RdC.at (hx.below BO (Nat.le_refl _)) hlt
      obtain ⟨hy0, hy1⟩ := HLL.out y (List.mem_of_getElem? HY.out)
      obtain ⟨s0, s1, s2, -⟩ := SO.cells
      have hzs := SO.lt
      have BJ := bstep hbel (below_box wr (.cells #[.int .i64 y.i, .int .i64 y.o, .int .i64 y.v] 36))
      by_cases hnt : (k : Int) = nt
      · have hz : ((k : Int) != nt) = false := by simp [hnt]
        have HC : Hid ((k : Int) = nt ∨ y.v ≠ v ∨ y.i / e ≠ x) := .inl hnt
        clear hnt
        go_wp2
        go_roundg (n - (k + 1))
        case rel => exact ⟨k + 1, by omega, rfl, by go_num, HN.out.succ HY.out HC.out, BJ⟩
        case measure => omega
      · have hz : ((k : Int) != nt) = true := by simp [hnt]
        have HNT := Lib.hid hnt; clear hnt
        by_cases hv : y.v = v
        · have hz2 : (y.v == v) = true := by simpa using hv
          have HVV := Lib.hid hv; clear hv
          by_cases hq : y.i / e = x
          · have hz3 : (y.i / e == x) = true := by simpa using hq
            have HF : Hid (FoundF e ys x v nt k) := .inr ⟨k, y, rfl, HY.out, HNT.out, HVV.out, hq⟩
            clear hq
            go_wp2
            go_ret
            exact ⟨_, rfl, HF.out, bstep B0 BJ⟩
          · have hz3 : (y.i / e == x) = false := by simpa using hq
            have HC : Hid ((k : Int) = nt ∨ y.v ≠ v ∨ y.i / e ≠ x) := .inr (.inr hq)
            clear hq
            go_wp2
            go_roundg (n - (k + 1))
            case rel => exact ⟨k + 1, by omega, rfl, by go_num, HN.out.succ HY.out HC.out, BJ⟩
            case measure => omega
        · have hz2 : (y.v == v) = false := by simpa using hv
          have HC : Hid ((k : Int) = nt ∨ y.v ≠ v ∨ y.i / e ≠ x) := .inr (.inl hv)
          clear hv
          go_wp2
          go_roundg (n - (k + 1))
          case rel => exact ⟨k + 1, by omega, rfl, by go_num, HN.out.succ HY.out HC.out, BJ⟩
          case measure => omega
    · go_wp2
      go_ret
      exact ⟨_, rfl, .inl ⟨rfl, fun j c' hc' => HN.out j c' (by have := (List.getElem?_eq_some_iff.1 hc').1; rw [HL.out] at this; omega) hc'⟩, BO⟩
/-- Where a call is found. -/
def FoundT (e : Int) (ys : List Cl) (x v nt : Int) (r : Int) : Prop :=
  (r = -1 ∧ ∀ (k : Nat) c, ys[k]? = some c → (k : Int) ≠ nt → c.v = v → c.o / e ≠ x) ∨ ∃ (k : Nat) (c : Cl), r = (k : Int) ∧ ys[k]? = some c ∧ (k : Int) ≠ nt ∧ c.v = v ∧ c.o / e = x
def NoT (e : Int) (ys : List Cl) (x v nt : Int) (n : Nat) : Prop := ∀ (k : Nat) c, k < n → ys[k]? = some c → (k : Int) ≠ nt → c.v = v → c.o / e ≠ x
theorem NoT.succ {e : Int} {ys : List Cl} {x v nt : Int} {n : Nat} {y : Cl} (h : NoT e ys x v nt n) (hy : ys[n]? = some y) (hc : (n : Int) = nt ∨ y.v ≠ v ∨ y.o / e ≠ x) : NoT e ys x v nt (n + 1) := by
  intro k c hk hcc hne hv
  rcases (by omega : k < n ∨ k = n) with h1 | rfl
  · exact h k c h1 hcc hne hv
  · rw [hy] at hcc; injection hcc with hcc; subst hcc
    rcases hc with h2 | h2 | h2
    · exact absurd h2 hne
    · exact absurd hv h2
    · exact h2
set_option maxHeartbeats 1000000 in
theorem impl_callTo (o e m : Int) (A : Option Addr) (n c : Nat) (ys : List Cl) (x v nt : Int) (w : World) (hx : RdC w A n ys) (hn : n ≤ 1048576) (he : 1 ≤ e) (hl : ∀ c ∈ ys, 0 ≤ c.o ∧ c.o ≤ 1000) :
    Calls Try.prog 55 #[shv o e m, .slice A n c, .int .i64 x, .int .i64 v, .int .i64 nt] w (RetI (FoundT e ys x v nt) w) := by
  have HL := hx.len
  have HLL := Lib.hid hl; clear hl
  have B0 := below_box w (.cells #[.int .i64 o, .int .i64 e, .int .i64 m] 24)
  have S0 := ShAt.new w o e m
  obtain ⟨W, HW⟩ : ∃ W, Hid (W = w.alloc (.cells #[.int .i64 o, .int .i64 e, .int .i64 m] 24)) := ⟨_, rfl⟩
  rw [← HW.out] at S0 B0
  go_enter Try.func55, Try.ntmps55
  go_wp2
  rw [← HW.out]
  go_loopg [15] n (fun g i' wr => ∃ k : Nat, k ≤ n ∧ g = n - k ∧ i' = .int .i64 k ∧ Hid (NoT e ys x v nt k) ∧ Below W.heap.size W wr)
  case atStart => exact ⟨0, Nat.zero_le _, rfl, rfl, fun k c hk => absurd hk (Nat.not_lt_zero _), Below.refl _ _⟩
  case round =>
    obtain ⟨k, hk, rfl, rfl, HN, hbel⟩ := hrel
    have BO := bstep B0 hbel
    have SO := S0.below hbel
    by_cases hlt : k < n
    · obtain ⟨b, off, y, rfl, HY, g0, g1, g2⟩ := RdC.at (hx.below BO (Nat.le_refl _)) hlt
      obtain ⟨hy0, hy1⟩ := HLL.out y (List.mem_of_getElem? HY.out)
      obtain ⟨s0, s1, s2, -⟩ := SO.cells
      have hzs := SO.lt
      have BJ := bstep hbel (below_box wr (.cells #[.int .i64 y.i, .int .i64 y.o, .int .i64 y.v] 36))
      by_cases hnt : (k : Int) = nt
      · have hz : ((k : Int) != nt) = false := by simp [hnt]
        have HC : Hid ((k : Int) = nt ∨ y.v ≠ v ∨ y.o / e ≠ x) := .inl hnt
        clear hnt
        go_wp2
        go_roundg (n - (k + 1))
        case rel => exact ⟨k + 1, by omega, rfl, by go_num, HN.out.succ HY.out HC.out, BJ⟩
        case measure => omega
      · have hz : ((k : Int) != nt) = true := by simp [hnt]
        have HNT := Lib.hid hnt; clear hnt
        by_cases hv : y.v = v
        · have hz2 : (y.v == v) = true := by simpa using hv
          have HVV := Lib.hid hv; clear hv
          by_cases hq : y.o / e = x
          · have hz3 : (y.o / e == x) = true := by simpa using hq
            have HF : Hid (FoundT e ys x v nt k) := .inr ⟨k, y, rfl, HY.out, HNT.out, HVV.out, hq⟩
            clear hq
            go_wp2
            go_ret
            exact ⟨_, rfl, HF.out, bstep B0 BJ⟩
          · have hz3 : (y.o / e == x) = false := by simpa using hq
            have HC : Hid ((k : Int) = nt ∨ y.v ≠ v ∨ y.o / e ≠ x) := .inr (.inr hq)
            clear hq
            go_wp2
            go_roundg (n - (k + 1))
            case rel => exact ⟨k + 1, by omega, rfl, by go_num, HN.out.succ HY.out HC.out, BJ⟩
            case measure => omega
        · have hz2 : (y.v == v) = false := by simpa using hv
          have HC : Hid ((k : Int) = nt ∨ y.v ≠ v ∨ y.o / e ≠ x) := .inr (.inl hv)
          clear hv
          go_wp2
          go_roundg (n - (k + 1))
          case rel => exact ⟨k + 1, by omega, rfl, by go_num, HN.out.succ HY.out HC.out, BJ⟩
          case measure => omega
    · go_wp2
      go_ret
      exact ⟨_, rfl, .inl ⟨rfl, fun j c' hc' => HN.out j c' (by have := (List.getElem?_eq_some_iff.1 hc').1; rw [HL.out] at this; omega) hc'⟩, BO⟩
end Go.Proofs.Ytcickfahpcmcdaa
