/- TrafficValid, the sums of rows and columns, LineMost and TrafficAll of the program and of the reference. Condition: tables of at most 1048576 numbers. -/
import Derived.Test.Ythfjlellaojdmaa5a
import Derived.Test.Ythfjlellaojdmaa5c
import Derived.Test.YthfjlellaojdmaaHas
namespace Go.Proofs.Ythfjlellaojdmaa
open Go.RowKit
set_option linter.unusedSimpArgs false
set_option linter.unusedVariables false
/-- A test that only reads, asked in a later world. -/
theorem retB_at {P : Program} {f : FuncId} {args : Array Value} {w : World} {p : Prop} (m : Nat) (h : Calls P f args (w.drewN m) (RetB p (w.drewN m))) : Calls P f args (w.drewN m) (RetB p w) :=
  h.mono fun _ _ ⟨v, he, hv, k, hk⟩ => ⟨v, he, hv, m + k, by rw [hk, World.drewN_drewN]⟩
section
variable {w : World} {A : Option Addr} {n : Nat} {f : Nat → Int} {F : Nat → Nat → Int}
theorem RdL.atF (h : RdL iv w A n (rowF n f)) {j : Nat} (hj : j < n) : ∃ b off x, A = some ⟨b, off, none⟩ ∧ Hid (f j = x) ∧ w.cell? ⟨b, off + j, none⟩ = some (iv x) := by
  obtain ⟨b, off, x, hA, HX, hc⟩ := h.at hj
  have e := HX.out
  rw [rowF_at hj] at e; injection e with e
  exact ⟨b, off, x, hA, e, hc⟩
theorem RdT.atF (h : RdT w A n (tabF n F)) {k : Nat} (hk : k < n) : ∃ b off Ak ck, A = some ⟨b, off, none⟩ ∧ w.cell? ⟨b, off + k, none⟩ = some (.slice Ak n ck) ∧ RdL iv w Ak n (rowF n (F k)) ∧ n ≤ ck := by
  obtain ⟨b, off, Ak, nk, ck, r, hA, HX, hc, hr, hn⟩ := h.at hk
  have e := HX.out
  rw [tabF_at hk] at e; injection e with e; subst e
  have hl := hr.len.out
  rw [rowF_len] at hl; subst hl
  exact ⟨b, off, Ak, ck, hA, hc, hr, hn⟩
theorem RdT.atFF (h : RdT w A n (tabF n F)) {k j : Nat} (hk : k < n) (hj : j < n) : ∃ b off b2 off2 ck x, A = some ⟨b, off, none⟩ ∧ w.cell? ⟨b, off + k, none⟩ = some (.slice (some ⟨b2, off2, none⟩) n ck) ∧ n ≤ ck ∧ Hid (F k j = x) ∧ w.cell? ⟨b2, off2 + j, none⟩ = some (iv x) := by
  obtain ⟨b, off, Ak, ck, hA, hc, hr, hn⟩ := h.atF hk
  obtain ⟨b2, off2, x, rfl, HX, hx⟩ := hr.atF hj
  exact ⟨b, off, b2, off2, ck, x, hA, hc, hn, HX, hx⟩
end
def TrafTo (rows : List (List Int)) (k : Nat) : Prop := ∀ (i : Nat) r, i < k → rows[i]? = some r → r.length = rows.length ∧ ∀ x ∈ r, 0 ≤ x ∧ x ≤ 6
def BetTo (r : List Int) (k : Nat) : Prop := ∀ (i : Nat) x, i < k → r[i]? = some x → 0 ≤ x ∧ x ≤ 6
theorem TrafTo.zero (rows : List (List Int)) : TrafTo rows 0 := fun _ _ h => absurd h (Nat.not_lt_zero _)
theorem BetTo.zero (r : List Int) : BetTo r 0 := fun _ _ h => absurd h (Nat.not_lt_zero _)
theorem BetTo.succ {r : List Int} {k : Nat} {x : Int} (h : BetTo r k) (hx : r[k]? = some x) (h0 : 0 ≤ x ∧ x ≤ 6) : BetTo r (k + 1) := by
  intro i y hi hy
  rcases (by omega : i < k ∨ i = k) with h1 | rfl
  · exact h i y h1 hy
  · rw [hx] at hy; injection hy with hy; subst hy; exact h0
theorem BetTo.all {r : List Int} {k : Nat} (h : BetTo r k) (hk : r.length ≤ k) : ∀ x ∈ r, 0 ≤ x ∧ x ≤ 6 := by
  intro x hx
  obtain ⟨i, hi⟩ := List.getElem?_of_mem hx
  exact h i x (by have := (List.getElem?_eq_some_iff.1 hi).1; omega) hi
theorem TrafTo.succ {rows : List (List Int)} {k : Nat} {r : List Int} (h : TrafTo rows k) (hr : rows[k]? = some r) (h1 : r.length = rows.length) (h2 : ∀ x ∈ r, 0 ≤ x ∧ x ≤ 6) : TrafTo rows (k + 1) := by
  intro i y hi hy
  rcases (by omega : i < k ∨ i = k) with h3 | rfl
  · exact h i y h3 hy
  · rw [hr] at hy; injection hy with hy; subst hy; exact ⟨h1, h2⟩
theorem TrafTo.all {rows : List (List Int)} {k : Nat} (h : TrafTo rows k) (hk : rows.length ≤ k) (h6 : rows.length ≤ 6) : TrafOk rows := by
  refine ⟨h6, fun r hr => ?_⟩
  obtain ⟨i, hi⟩ := List.getElem?_of_mem hr
  exact h i r (by have := (List.getElem?_eq_some_iff.1 hi).1; omega) hi
set_option maxHeartbeats 1000000 in
theorem impl_TrafficValid (A : Option Addr) (n c : Nat) (rows : List (List Int)) (w : World) (hx : RdT w A n rows) (hs : SmT rows) :
    Calls Try.prog 40 #[.slice A n c] w (RetB (TrafOk rows) w) := by
  have HL := hx.len
  have hn : n ≤ 1048576 := by rw [← HL.out]; exact hs.1
  have HS := Lib.hid hs; clear hs
  by_cases h6 : 6 < n
  · go_enter Try.func40, Try.ntmps40
    go_wp2
    go_ret
    exact RetB.no (fun h => by have := h.1; have := HL.out; omega) 0
  · go_enter Try.func40, Try.ntmps40
    go_wp2
    go_loopg [12] n (fun g i wr => ∃ k m : Nat, k ≤ n ∧ g = n - k ∧ i = .int .i64 k ∧ Hid (TrafTo rows k) ∧ wr = w.drewN m)
    case atStart => exact ⟨0, 0, Nat.zero_le _, rfl, rfl, TrafTo.zero _, rfl⟩
    case round =>
      obtain ⟨k, m, hk, rfl, rfl, HT, rfl⟩ := hrel
      by_cases hlt : k < n
      · obtain ⟨b, off, Ak, nk, ck, r, rfl, HX, hc, hrd, hnk⟩ := hx.at hlt
        have hrl := hrd.len
        by_cases hne : nk = n
        · subst hne
          go_wp2
          go_loopg [23] nk (fun g i wr => ∃ j q : Nat, j ≤ nk ∧ g = nk - j ∧ i = .int .i64 j ∧ Hid (BetTo r j) ∧ wr = w.drewN q)
          case atStart => exact ⟨0, m, Nat.zero_le _, rfl, rfl, BetTo.zero _, rfl⟩
          case round =>
            obtain ⟨j, q, hj, rfl, rfl, HB, rfl⟩ := hrel
            by_cases hjl : j < nk
            · obtain ⟨b2, off2, x, rfl, HX2, hcx⟩ := hrd.at hjl
              by_cases h0 : x < 0
              · go_wp2
                go_ret
                exact RetB.no (fun h => by have := (h.2 r (List.mem_of_getElem? HX.out)).2 x (List.mem_of_getElem? HX2.out); omega) _
              · have h0z : decide (x < 0) = false := by simp; omega
                by_cases h1 : 6 < x
                · go_wp2
                  go_ret
                  exact RetB.no (fun h => by have := (h.2 r (List.mem_of_getElem? HX.out)).2 x (List.mem_of_getElem? HX2.out); omega) _
                · have h1z : decide (6 < x) = false := by simp; omega
                  go_wp2
                  go_roundg (nk - (j + 1))
                  case rel => exact ⟨j + 1, q, by omega, rfl, by go_num, HB.out.succ HX2.out ⟨by omega, by omega⟩, rfl⟩
                  case measure => omega
            · go_wp2
              go_roundg (nk - (k + 1))
              case rel => exact ⟨k + 1, q, by omega, rfl, by go_num, HT.out.succ HX.out (by rw [hrl.out, HL.out]) (HB.out.all (by rw [hrl.out]; omega)), rfl⟩
              case measure => omega
        · have hnez : ((nk : Int) != (n : Int)) = true := by simp; omega
          go_wp2
          go_ret
          exact RetB.no (fun h => hne (by have := (h.2 r (List.mem_of_getElem? HX.out)).1; have := hrl.out; have := HL.out; omega)) _
      · go_wp2
        go_ret
        exact RetB.yes (HT.out.all (by rw [HL.out]; omega) (by rw [HL.out]; omega)) _
set_option maxHeartbeats 1000000 in
theorem spec_TrafficValid (A : Option Addr) (n c : Nat) (rows : List (List Int)) (w : World) (hx : RdT w A n rows) (hs : SmT rows) :
    Calls Try.prog 23 #[.slice A n c] w (RetB (TrafOk rows) w) := by
  have HL := hx.len
  have hn : n ≤ 1048576 := by rw [← HL.out]; exact hs.1
  have HS := Lib.hid hs; clear hs
  go_enter Try.func23, Try.ntmps23
  go_wp2
  go_loopg [3] n (fun g i wr => ∃ k m : Nat, k ≤ n ∧ g = n - k ∧ i = .int .i64 k ∧ Hid (TrafTo rows k) ∧ wr = w.drewN m)
  case atStart => exact ⟨0, 0, Nat.zero_le _, rfl, rfl, TrafTo.zero _, rfl⟩
  case round =>
    obtain ⟨k, m, hk, rfl, rfl, HT, rfl⟩ := hrel
    by_cases hlt : k < n
    · obtain ⟨b, off, Ak, nk, ck, r, rfl, HX, hc, hrd, hnk⟩ := hx.at hlt
      have hrl := hrd.len
      by_cases hne : nk = n
      · subst hne
        go_wp2
        go_loopg [4] nk (fun g i wr => ∃ j q : Nat, j ≤ nk ∧ g = nk - j ∧ i = .int .i64 j ∧ Hid (BetTo r j) ∧ wr = w.drewN q)
        case atStart => exact ⟨0, m, Nat.zero_le _, rfl, rfl, BetTo.zero _, rfl⟩
        case round =>
          obtain ⟨j, q, hj, rfl, rfl, HB, rfl⟩ := hrel
          by_cases hjl : j < nk
          · obtain ⟨b2, off2, x, rfl, HX2, hcx⟩ := hrd.at hjl
            cases hin : inB x 0 6 with
            | false =>
              have HIN := Lib.hid hin; clear hin
              go_wp2_with (go_at_call 42; refine (l1_is HIN.out).mono ?_; rintro e w2 ⟨rfl, m2, rfl⟩)
              go_ret
              exact RetB.no (fun h => by have h1 := (h.2 r (List.mem_of_getElem? HX.out)).2 x (List.mem_of_getElem? HX2.out); have h2 := HIN.out; simp [inB] at h2; omega) _
            | true =>
              have HIN := Lib.hid hin; clear hin
              go_wp2_with (go_at_call 42; refine (l1_is HIN.out).mono ?_; rintro e w2 ⟨rfl, m2, rfl⟩)
              go_roundg (nk - (j + 1))
              case rel => exact ⟨j + 1, q + m2, by omega, rfl, by go_num, HB.out.succ HX2.out (by have h2 := HIN.out; simp [inB] at h2; omega), by simp⟩
              case measure => omega
          · go_wp2
            go_roundg (nk - (k + 1))
            case rel => exact ⟨k + 1, q, by omega, rfl, by go_num, HT.out.succ HX.out (by rw [hrl.out, HL.out]) (HB.out.all (by rw [hrl.out]; omega)), rfl⟩
            case measure => omega
      · have hnez : ((nk : Int) != (n : Int)) = true := by simp; omega
        go_wp2
        go_ret
        exact RetB.no (fun h => hne (by have := (h.2 r (List.mem_of_getElem? HX.out)).1; have := hrl.out; have := HL.out; omega)) _
    · by_cases h6 : 6 < n
      · have h6z : decide ((n : Int) ≤ 6) = false := by simp; omega
        go_wp2
        go_ret
        exact RetB.no (fun h => by have := h.1; have := HL.out; omega) _
      · have h6z : decide ((n : Int) ≤ 6) = true := by simp; omega
        go_wp2
        go_ret
        exact RetB.yes (HT.out.all (by rw [HL.out]; omega) (by rw [HL.out]; omega)) _
/-- Numbers from -1000 to 1000 everywhere. -/
def Bk (n : Nat) (F : Nat → Nat → Int) : Prop := Bd n F (-1000) 1000
theorem Bd.k {n : Nat} {F : Nat → Nat → Int} {lo hi : Int} (h : Bd n F lo hi) (h1 : -1000 ≤ lo) (h2 : hi ≤ 1000) : Bk n F := fun i j hi hj => by have := h i j hi hj; omega
theorem sumN_step (f : Nat → Int) (k : Nat) : sumN f (k + 1) = sumN f k + f k := rfl
theorem impl_rowSum (A : Option Addr) (n c k : Nat) (F : Nat → Nat → Int) (w : World) (hx : RdT w A n (tabF n F)) (hk : k < n) (hn : n ≤ 6) (hb : Bk n F) :
    Calls Try.prog 46 #[.slice A n c, .int .i64 k] w fun e w' => e = .returned (.int .i64 (rowS n F k)) ∧ ∃ m, w' = w.drewN m := by
  have HB := Lib.hid hb; clear hb
  obtain ⟨b, off, Ak, ck, rfl, hc, hr, hnc⟩ := hx.atF hk
  go_enter Try.func46, Try.ntmps46
  go_wp2
  go_loopg [5, 13] n (fun g s i wr => ∃ (j m : Nat) (S : Int), j ≤ n ∧ g = n - j ∧ i = .int .i64 j ∧ s = .int .i64 S ∧ Hid (S = sumN (F k) j) ∧ -1000 * (j : Int) ≤ S ∧ S ≤ 1000 * (j : Int) ∧ wr = w.drewN m)
  case atStart => exact ⟨0, 0, 0, Nat.zero_le _, rfl, rfl, rfl, rfl, by omega, by omega, rfl⟩
  case round =>
    obtain ⟨j, m, S, hj, rfl, rfl, rfl, HS, h1, h2, rfl⟩ := hrel
    by_cases hjl : j < n
    · obtain ⟨b2, off2, x, rfl, HX, g⟩ := hr.atF hjl
      have hxb : -1000 ≤ x ∧ x ≤ 1000 := by rw [← HX.out]; exact HB.out k j hk hjl
      obtain ⟨hx1, hx2⟩ := hxb
      go_wp2
      go_roundg (n - (j + 1))
      case rel => exact ⟨j + 1, m, S + x, by omega, rfl, by go_num, rfl, (by show _ = _; rw [sumN_step, ← HS.out, HX.out]), by omega, by omega, rfl⟩
      case measure => omega
    · go_wp2
      go_ret
      obtain rfl : j = n := by omega
      exact ⟨ret_int HS.out, _, rfl⟩
theorem impl_columnSum (A : Option Addr) (n c k : Nat) (F : Nat → Nat → Int) (w : World) (hx : RdT w A n (tabF n F)) (hk : k < n) (hn : n ≤ 6) (hb : Bk n F) :
    Calls Try.prog 47 #[.slice A n c, .int .i64 k] w fun e w' => e = .returned (.int .i64 (colS n F k)) ∧ ∃ m, w' = w.drewN m := by
  have HB := Lib.hid hb; clear hb
  go_enter Try.func47, Try.ntmps47
  go_wp2
  go_loopg [5, 10] n (fun g s i wr => ∃ (j m : Nat) (S : Int), j ≤ n ∧ g = n - j ∧ i = .int .i64 j ∧ s = .int .i64 S ∧ Hid (S = sumN (fun i => F i k) j) ∧ -1000 * (j : Int) ≤ S ∧ S ≤ 1000 * (j : Int) ∧ wr = w.drewN m)
  case atStart => exact ⟨0, 0, 0, Nat.zero_le _, rfl, rfl, rfl, rfl, by omega, by omega, rfl⟩
  case round =>
    obtain ⟨j, m, S, hj, rfl, rfl, rfl, HS, h1, h2, rfl⟩ := hrel
    by_cases hjl : j < n
    · obtain ⟨b, off, b2, off2, ck, x, rfl, hc, hnc, HX, g⟩ := hx.atFF hjl hk
      have hxb : -1000 ≤ x ∧ x ≤ 1000 := by rw [← HX.out]; exact HB.out j k hjl hk
      obtain ⟨hx1, hx2⟩ := hxb
      go_wp2
      go_roundg (n - (j + 1))
      case rel => exact ⟨j + 1, m, S + x, by omega, rfl, by go_num, rfl, (by show _ = _; rw [sumN_step, ← HS.out, HX.out]), by omega, by omega, rfl⟩
      case measure => omega
    · go_wp2
      go_ret
      obtain rfl : j = n := by omega
      exact ⟨ret_int HS.out, _, rfl⟩
theorem spec_l1Sum (A : Option Addr) (n c : Nat) (f : Nat → Int) (w : World) (hr : RdL iv w A n (rowF n f)) (hn : n ≤ 6) (hb : ∀ j, j < n → -1000 ≤ f j ∧ f j ≤ 1000) :
    Calls Try.prog 54 #[.slice A n c] w fun e w' => e = .returned (.int .i64 (sumN f n)) ∧ ∃ m, w' = w.drewN m := by
  have HB := Lib.hid hb; clear hb
  go_enter Try.func54, Try.ntmps54
  go_wp2
  go_loopg [3, 4] n (fun g s i wr => ∃ (j m : Nat) (S : Int), j ≤ n ∧ g = n - j ∧ i = .int .i64 j ∧ s = .int .i64 S ∧ Hid (S = sumN f j) ∧ -1000 * (j : Int) ≤ S ∧ S ≤ 1000 * (j : Int) ∧ wr = w.drewN m)
  case atStart => exact ⟨0, 0, 0, Nat.zero_le _, rfl, rfl, rfl, rfl, by omega, by omega, rfl⟩
  case round =>
    obtain ⟨j, m, S, hj, rfl, rfl, rfl, HS, h1, h2, rfl⟩ := hrel
    by_cases hjl : j < n
    · obtain ⟨b2, off2, x, rfl, HX, g⟩ := hr.atF hjl
      have hxb : -1000 ≤ x ∧ x ≤ 1000 := by rw [← HX.out]; exact HB.out j hjl
      obtain ⟨hx1, hx2⟩ := hxb
      go_wp2
      go_roundg (n - (j + 1))
      case rel => exact ⟨j + 1, m, S + x, by omega, rfl, by go_num, rfl, (by show _ = _; rw [sumN_step, ← HS.out, HX.out]), by omega, by omega, rfl⟩
      case measure => omega
    · go_wp2
      go_ret
      obtain rfl : j = n := by omega
      exact ⟨ret_int HS.out, _, rfl⟩
theorem spec_l1Column (A : Option Addr) (n c k : Nat) (F : Nat → Nat → Int) (w : World) (hx : RdT w A n (tabF n F)) (hk : k < n) (hn : n ≤ 6) (hb : Bk n F) :
    Calls Try.prog 56 #[.slice A n c, .int .i64 k] w fun e w' => e = .returned (.int .i64 (colS n F k)) ∧ ∃ m, w' = w.drewN m := by
  have HB := Lib.hid hb; clear hb
  go_enter Try.func56, Try.ntmps56
  go_wp2
  go_loopg [5, 6] n (fun g s i wr => ∃ (j m : Nat) (S : Int), j ≤ n ∧ g = n - j ∧ i = .int .i64 j ∧ s = .int .i64 S ∧ Hid (S = sumN (fun i => F i k) j) ∧ -1000 * (j : Int) ≤ S ∧ S ≤ 1000 * (j : Int) ∧ wr = w.drewN m)
  case atStart => exact ⟨0, 0, 0, Nat.zero_le _, rfl, rfl, rfl, rfl, by omega, by omega, rfl⟩
  case round =>
    obtain ⟨j, m, S, hj, rfl, rfl, rfl, HS, h1, h2, rfl⟩ := hrel
    by_cases hjl : j < n
    · obtain ⟨b, off, b2, off2, ck, x, rfl, hc, hnc, HX, g⟩ := hx.atFF hjl hk
      have hxb : -1000 ≤ x ∧ x ≤ 1000 := by rw [← HX.out]; exact HB.out j k hjl hk
      obtain ⟨hx1, hx2⟩ := hxb
      go_wp2
      go_roundg (n - (j + 1))
      case rel => exact ⟨j + 1, m, S + x, by omega, rfl, by go_num, rfl, (by show _ = _; rw [sumN_step, ← HS.out, HX.out]), by omega, by omega, rfl⟩
      case measure => omega
    · go_wp2
      go_ret
      obtain rfl : j = n := by omega
      exact ⟨ret_int HS.out, _, rfl⟩
theorem rowS_bd {n k : Nat} {F : Nat → Nat → Int} (hb : Bk n F) (hn : n ≤ 6) (hk : k < n) : -6000 ≤ rowS n F k ∧ rowS n F k ≤ 6000 := by
  have h := sumN_between (f := F k) (n := n) (k := n) (fun j hj => hb k j hk hj) (Nat.le_refl _)
  unfold rowS; omega
theorem colS_bd {n k : Nat} {F : Nat → Nat → Int} (hb : Bk n F) (hn : n ≤ 6) (hk : k < n) : -6000 ≤ colS n F k ∧ colS n F k ≤ 6000 := by
  have h := sumN_between (f := fun i => F i k) (n := n) (k := n) (fun j hj => hb j k hj hk) (Nat.le_refl _)
  unfold colS; omega
theorem mostTo_bd {n k : Nat} {F : Nat → Nat → Int} (hb : Bk n F) (hn : n ≤ 6) (hk : k ≤ n) : 0 ≤ mostTo n F k ∧ mostTo n F k ≤ 6000 := by
  refine ⟨mostTo_nonneg _ _ _, ?_⟩
  rcases mostTo_is n F k with h1 | ⟨i, hi, h1 | h1⟩
  · omega
  · have := rowS_bd hb hn (k := i) (by omega); omega
  · have := colS_bd hb hn (k := i) (by omega); omega
theorem mostTo_step (n : Nat) (F : Nat → Nat → Int) (k : Nat) : mostTo n F (k + 1) = max (max (mostTo n F k) (rowS n F k)) (colS n F k) := rfl
theorem impl_LineMost (A : Option Addr) (n c : Nat) (rows : List (List Int)) (w : World) (hx : RdT w A n rows) (hs : SmT rows) :
    Calls Try.prog 18 #[.slice A n c] w fun e w' => e = .returned (.int .i64 (lineL rows)) ∧ ∃ m, w' = w.drewN m := by
  have HL := hx.len
  have HS := Lib.hid hs; clear hs
  by_cases hT : TrafOk rows
  · have HV : Hid (lineL rows = mostF n (fOf rows)) := by show _ = _; rw [lineL_yes hT, HL.out]
    have h6 : n ≤ 6 := by rw [← HL.out]; exact hT.six
    have HB : Hid (Bk n (fOf rows)) := by have := hT.bd6; rw [HL.out] at this; exact this.k (by omega) (by omega)
    have hxF : RdT w A n (tabF n (fOf rows)) := by have := hT.tab; rw [HL.out] at this; rw [← this]; exact hx
    have HT := Lib.hid hT; clear hT
    rw [HV.out]
    obtain ⟨F, hF⟩ : ∃ F, fOf rows = F := ⟨_, rfl⟩
    rw [hF] at HB hxF ⊢
    clear hF HV
    go_enter Try.func18, Try.ntmps18
    go_wp2_with (go_at_call 40; refine (retB_is (b := true) ⟨fun _ => HT.out, fun _ => rfl⟩ (impl_TrafficValid A n c rows _ hx HS.out)).mono ?_; rintro e w1 ⟨rfl, m1, rfl⟩)
    go_loopg [3, 10] n (fun g s i wr => ∃ (k m : Nat) (S : Int), k ≤ n ∧ g = n - k ∧ i = .int .i64 k ∧ s = .int .i64 S ∧ Hid (S = mostTo n F k) ∧ wr = w.drewN m)
    case atStart => exact ⟨0, m1, 0, Nat.zero_le _, rfl, rfl, rfl, rfl, rfl⟩
    case round =>
      obtain ⟨k, m, S, hk, rfl, rfl, rfl, HM, rfl⟩ := hrel
      by_cases hlt : k < n
      · go_wp2_with fail
        refine (impl_rowSum A n c k F _ (hxF.drewN _) hlt h6 HB.out).mono ?_
        rintro e w2 ⟨rfl, m2, rfl⟩
        obtain ⟨R, HR⟩ : ∃ R, Hid (rowS n F k = R) := ⟨_, rfl⟩
        rw [HR.out]
        go_wp2_with fail
        refine (impl_columnSum A n c k F _ (hxF.drewN _) hlt h6 HB.out).mono ?_
        rintro e w3 ⟨rfl, m3, rfl⟩
        obtain ⟨C, HC⟩ : ∃ C, Hid (colS n F k = C) := ⟨_, rfl⟩
        rw [HC.out]
        go_wp2
        all_goals
          go_roundg (n - (k + 1))
          case rel => exact ⟨k + 1, m + m2 + m3, _, by omega, rfl, by go_num, rfl, (by show _ = _; rw [mostTo_step, ← HM.out, HR.out, HC.out]; omega), by simp [Nat.add_assoc]⟩
          case measure => omega
      · go_wp2
        go_ret
        obtain rfl : k = n := by omega
        exact ⟨ret_int HM.out, _, rfl⟩
  · have HV : Hid (lineL rows = -1) := lineL_no hT
    have HT := Lib.hid hT; clear hT
    go_enter Try.func18, Try.ntmps18
    go_wp2_with (go_at_call 40; refine (retB_is (b := false) ⟨fun h => by simp at h, fun h => absurd h HT.out⟩ (impl_TrafficValid A n c rows _ hx HS.out)).mono ?_; rintro e w1 ⟨rfl, m1, rfl⟩)
    go_ret
    exact ⟨ret_int HV.out.symm, _, rfl⟩
theorem spec_LineMost (A : Option Addr) (n c : Nat) (rows : List (List Int)) (w : World) (hx : RdT w A n rows) (hs : SmT rows) :
    Calls Try.prog 52 #[.slice A n c] w fun e w' => e = .returned (.int .i64 (lineL rows)) ∧ ∃ m, w' = w.drewN m := by
  have HL := hx.len
  have HS := Lib.hid hs; clear hs
  by_cases hT : TrafOk rows
  · have HV : Hid (lineL rows = mostF n (fOf rows)) := by show _ = _; rw [lineL_yes hT, HL.out]
    have h6 : n ≤ 6 := by rw [← HL.out]; exact hT.six
    have HB : Hid (Bk n (fOf rows)) := by have := hT.bd6; rw [HL.out] at this; exact this.k (by omega) (by omega)
    have hxF : RdT w A n (tabF n (fOf rows)) := by have := hT.tab; rw [HL.out] at this; rw [← this]; exact hx
    have HT := Lib.hid hT; clear hT
    rw [HV.out]
    obtain ⟨F, hF⟩ : ∃ F, fOf rows = F := ⟨_, rfl⟩
    rw [hF] at HB hxF ⊢
    clear hF HV
    go_enter Try.func52, Try.ntmps52
    go_wp2_with (go_at_call 23; refine (retB_is (b := true) ⟨fun _ => HT.out, fun _ => rfl⟩ (spec_TrafficValid A n c rows _ hx HS.out)).mono ?_; rintro e w1 ⟨rfl, m1, rfl⟩)
    go_loopg [3, 4] n (fun g s i wr => ∃ (k m : Nat) (S : Int), k ≤ n ∧ g = n - k ∧ i = .int .i64 k ∧ s = .int .i64 S ∧ Hid (S = mostTo n F k) ∧ wr = w.drewN m)
    case atStart => exact ⟨0, m1, 0, Nat.zero_le _, rfl, rfl, rfl, rfl, rfl⟩
    case round =>
      obtain ⟨k, m, S, hk, rfl, rfl, rfl, HM, rfl⟩ := hrel
      by_cases hlt : k < n
      · obtain ⟨b, off, Ak, ck, rfl, hc, hr, hnc⟩ := hxF.atF hlt
        go_wp2_with fail
        refine (spec_l1Sum Ak n ck (F k) _ (hr.drewN _) h6 (fun j hj => HB.out k j hlt hj)).mono ?_
        rintro e w2 ⟨rfl, m2, rfl⟩
        obtain ⟨R, HR⟩ : ∃ R, Hid (sumN (F k) n = R) := ⟨_, rfl⟩
        rw [HR.out]
        go_wp2_with fail
        refine (spec_l1Column _ n c k F _ (hxF.drewN _) hlt h6 HB.out).mono ?_
        rintro e w3 ⟨rfl, m3, rfl⟩
        obtain ⟨C, HC⟩ : ∃ C, Hid (colS n F k = C) := ⟨_, rfl⟩
        rw [HC.out]
        go_wp2
        all_goals
          go_roundg (n - (k + 1))
          case rel => exact ⟨k + 1, m + m2 + m3, _, by omega, rfl, by go_num, rfl, (by show _ = _; rw [mostTo_step, ← HM.out, rowS, HR.out, HC.out]; omega), by simp [Nat.add_assoc]⟩
          case measure => omega
      · go_wp2
        go_ret
        obtain rfl : k = n := by omega
        exact ⟨ret_int HM.out, _, rfl⟩
  · have HV : Hid (lineL rows = -1) := lineL_no hT
    have HT := Lib.hid hT; clear hT
    go_enter Try.func52, Try.ntmps52
    go_wp2_with (go_at_call 23; refine (retB_is (b := false) ⟨fun h => by simp at h, fun h => absurd h HT.out⟩ (spec_TrafficValid A n c rows _ hx HS.out)).mono ?_; rintro e w1 ⟨rfl, m1, rfl⟩)
    go_ret
    exact ⟨ret_int HV.out.symm, _, rfl⟩
theorem impl_allUnits (A : Option Addr) (n c : Nat) (F : Nat → Nat → Int) (w : World) (hx : RdT w A n (tabF n F)) (hn : n ≤ 6) (hb : Bk n F) :
    Calls Try.prog 45 #[.slice A n c] w fun e w' => e = .returned (.int .i64 (allS n F)) ∧ ∃ m, w' = w.drewN m := by
  have HB := Lib.hid hb; clear hb
  go_enter Try.func45, Try.ntmps45
  go_wp2
  go_loopg [3, 7] n (fun g s i wr => ∃ (k m : Nat) (S : Int), k ≤ n ∧ g = n - k ∧ i = .int .i64 k ∧ s = .int .i64 S ∧ Hid (S = sumN (rowS n F) k) ∧ -6000 * (k : Int) ≤ S ∧ S ≤ 6000 * (k : Int) ∧ wr = w.drewN m)
  case atStart => exact ⟨0, 0, 0, Nat.zero_le _, rfl, rfl, rfl, rfl, by omega, by omega, rfl⟩
  case round =>
    obtain ⟨k, m, S, hk, rfl, rfl, rfl, HM, h1, h2, rfl⟩ := hrel
    by_cases hlt : k < n
    · go_wp2_with fail
      refine (impl_rowSum A n c k F _ (hx.drewN _) hlt hn HB.out).mono ?_
      rintro e w2 ⟨rfl, m2, rfl⟩
      obtain ⟨R, HR⟩ : ∃ R, Hid (rowS n F k = R) := ⟨_, rfl⟩
      have hR : -6000 ≤ R ∧ R ≤ 6000 := by rw [← HR.out]; exact rowS_bd HB.out hn hlt
      obtain ⟨hR1, hR2⟩ := hR
      rw [HR.out]
      go_wp2
      go_roundg (n - (k + 1))
      case rel => exact ⟨k + 1, m + m2, S + R, by omega, rfl, by go_num, rfl, (by show _ = _; rw [sumN_step, ← HM.out, HR.out]), by omega, by omega, by simp⟩
      case measure => omega
    · go_wp2
      go_ret
      obtain rfl : k = n := by omega
      exact ⟨ret_int HM.out, _, rfl⟩
theorem impl_TrafficAll0 (A : Option Addr) (n c : Nat) (rows : List (List Int)) (w : World) (hx : RdT w A n rows) (hs : SmT rows) :
    Calls Try.prog 17 #[.slice A n c] w fun e w' => e = .returned (.int .i64 (allL rows)) ∧ ∃ m, w' = w.drewN m := by
  have HL := hx.len
  have HS := Lib.hid hs; clear hs
  by_cases hT : TrafOk rows
  · have HV : Hid (allL rows = allS n (fOf rows)) := by show _ = _; rw [allL_yes hT, HL.out]
    have h6 : n ≤ 6 := by rw [← HL.out]; exact hT.six
    have HB : Hid (Bk n (fOf rows)) := by have := hT.bd6; rw [HL.out] at this; exact this.k (by omega) (by omega)
    have hxF : RdT w A n (tabF n (fOf rows)) := by have := hT.tab; rw [HL.out] at this; rw [← this]; exact hx
    have HT := Lib.hid hT; clear hT
    rw [HV.out]
    obtain ⟨F, hF⟩ : ∃ F, fOf rows = F := ⟨_, rfl⟩
    rw [hF] at HB hxF ⊢
    clear hF HV
    go_enter Try.func17, Try.ntmps17
    go_wp2_with (first
      | (go_at_call 40; refine (retB_is (b := true) ⟨fun _ => HT.out, fun _ => rfl⟩ (impl_TrafficValid A n c rows _ hx HS.out)).mono ?_; rintro e w1 ⟨rfl, m1, rfl⟩)
      | (go_at_call 45; refine (impl_allUnits A n c F _ (hxF.drewN _) h6 HB.out).mono ?_; rintro e w2 ⟨rfl, m2, rfl⟩))
    go_ret
    exact ⟨rfl, _, rfl⟩
  · have HV : Hid (allL rows = -1) := allL_no hT
    have HT := Lib.hid hT; clear hT
    go_enter Try.func17, Try.ntmps17
    go_wp2_with (go_at_call 40; refine (retB_is (b := false) ⟨fun h => by simp at h, fun h => absurd h HT.out⟩ (impl_TrafficValid A n c rows _ hx HS.out)).mono ?_; rintro e w1 ⟨rfl, m1, rfl⟩)
    go_ret
    exact ⟨ret_int HV.out.symm, _, rfl⟩
theorem impl_TrafficAll (A : Option Addr) (n c : Nat) (rows : List (List Int)) (w : World) (hx : RdT w A n rows) (hc : n ≤ c) (hs : SmT rows) :
    Calls Try.prog 17 #[.slice A n c] w fun e w' => e = .returned (.int .i64 (allL rows)) ∧ Below w.heap.size w w' := quiet_bel (impl_TrafficAll0 A n c rows w hx hs)
theorem spec_TrafficAll0 (A : Option Addr) (n c : Nat) (rows : List (List Int)) (w : World) (hx : RdT w A n rows) (hs : SmT rows) :
    Calls Try.prog 25 #[.slice A n c] w fun e w' => e = .returned (.int .i64 (allL rows)) ∧ ∃ m, w' = w.drewN m := by
  have HL := hx.len
  have HS := Lib.hid hs; clear hs
  by_cases hT : TrafOk rows
  · have HV : Hid (allL rows = allS n (fOf rows)) := by show _ = _; rw [allL_yes hT, HL.out]
    have h6 : n ≤ 6 := by rw [← HL.out]; exact hT.six
    have HB : Hid (Bk n (fOf rows)) := by have := hT.bd6; rw [HL.out] at this; exact this.k (by omega) (by omega)
    have hxF : RdT w A n (tabF n (fOf rows)) := by have := hT.tab; rw [HL.out] at this; rw [← this]; exact hx
    have HT := Lib.hid hT; clear hT
    rw [HV.out]
    obtain ⟨F, hF⟩ : ∃ F, fOf rows = F := ⟨_, rfl⟩
    rw [hF] at HB hxF ⊢
    clear hF HV
    go_enter Try.func25, Try.ntmps25
    go_wp2_with (go_at_call 23; refine (retB_is (b := true) ⟨fun _ => HT.out, fun _ => rfl⟩ (spec_TrafficValid A n c rows _ hx HS.out)).mono ?_; rintro e w1 ⟨rfl, m1, rfl⟩)
    go_loopg [3, 4] n (fun g s i wr => ∃ (k m : Nat) (S : Int), k ≤ n ∧ g = n - k ∧ i = .int .i64 k ∧ s = .int .i64 S ∧ Hid (S = sumN (rowS n F) k) ∧ -6000 * (k : Int) ≤ S ∧ S ≤ 6000 * (k : Int) ∧ wr = w.drewN m)
    case atStart => exact ⟨0, m1, 0, Nat.zero_le _, rfl, rfl, rfl, rfl, by omega, by omega, rfl⟩
    case round =>
      obtain ⟨k, m, S, hk, rfl, rfl, rfl, HM, h1, h2, rfl⟩ := hrel
      by_cases hlt : k < n
      · obtain ⟨b, off, Ak, ck, rfl, hc, hr, hnc⟩ := hxF.atF hlt
        go_wp2_with fail
        refine (spec_l1Sum Ak n ck (F k) _ (hr.drewN _) h6 (fun j hj => HB.out k j hlt hj)).mono ?_
        rintro e w2 ⟨rfl, m2, rfl⟩
        obtain ⟨R, HR⟩ : ∃ R, Hid (sumN (F k) n = R) := ⟨_, rfl⟩
        have hR : -6000 ≤ R ∧ R ≤ 6000 := by rw [← HR.out]; exact rowS_bd HB.out h6 hlt
        obtain ⟨hR1, hR2⟩ := hR
        rw [HR.out]
        go_wp2
        go_roundg (n - (k + 1))
        case rel => exact ⟨k + 1, m + m2, S + R, by omega, rfl, by go_num, rfl, (by show _ = _; rw [sumN_step, ← HM.out, rowS, HR.out]), by omega, by omega, by simp⟩
        case measure => omega
      · go_wp2
        go_ret
        obtain rfl : k = n := by omega
        exact ⟨ret_int HM.out, _, rfl⟩
  · have HV : Hid (allL rows = -1) := allL_no hT
    have HT := Lib.hid hT; clear hT
    go_enter Try.func25, Try.ntmps25
    go_wp2_with (go_at_call 23; refine (retB_is (b := false) ⟨fun h => by simp at h, fun h => absurd h HT.out⟩ (spec_TrafficValid A n c rows _ hx HS.out)).mono ?_; rintro e w1 ⟨rfl, m1, rfl⟩)
    go_ret
    exact ⟨ret_int HV.out.symm, _, rfl⟩
theorem spec_TrafficAll (A : Option Addr) (n c : Nat) (rows : List (List Int)) (w : World) (hx : RdT w A n rows) (hc : n ≤ c) (hs : SmT rows) :
    Calls Try.prog 25 #[.slice A n c] w fun e w' => e = .returned (.int .i64 (allL rows)) ∧ Below w.heap.size w w' := quiet_bel (spec_TrafficAll0 A n c rows w hx hs)
end Go.Proofs.Ythfjlellaojdmaa
