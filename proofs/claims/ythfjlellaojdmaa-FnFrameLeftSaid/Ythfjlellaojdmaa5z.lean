/- sameInts, sameLists, sumOf and columnOf of the laws, Even of the program, and what the draws of traffic answer: a small table. Condition: tables of at most 1048576 numbers. -/
import Derived.Test.Ythfjlellaojdmaa5y3
namespace Go.Proofs.Ythfjlellaojdmaa
open Go.RowKit
set_option linter.unusedSimpArgs false
set_option linter.unusedVariables false
theorem sameInts_any (A A' : Option Addr) (n n' c c' : Nat) (xs ys : List Int) (w : World) (hx : RdL iv w A n xs) (hy : RdL iv w A' n' ys) (hn : n ≤ 1048576) (hn' : n' ≤ 1048576) :
    Calls Try.prog 51 #[.slice A n c, .slice A' n' c'] w (RetB (xs = ys) w) := by
  have HL := hx.len
  have HL' := hy.len
  by_cases hne : n = n'
  · subst hne
    go_enter Try.func51, Try.ntmps51
    go_wp2
    go_loopg [5] n (fun g i wr => ∃ k m : Nat, k ≤ n ∧ g = n - k ∧ i = .int .i64 k ∧ Hid (xs.take k = ys.take k) ∧ wr = w.drewN m)
    case atStart => exact ⟨0, 0, Nat.zero_le _, rfl, rfl, rfl, rfl⟩
    case round =>
      obtain ⟨k, m, hk, rfl, rfl, hall, rfl⟩ := hrel
      by_cases hlt : k < n
      · obtain ⟨b, off, x, rfl, HX, g⟩ := hx.at hlt
        obtain ⟨b', off', y, rfl, HY, g'⟩ := hy.at hlt
        by_cases hxy : x = y
        · subst hxy
          go_wp2
          go_quiet (fail)
          go_wp2
          go_roundg (n - (k + 1))
          case rel => exact ⟨k + 1, _, by omega, rfl, by go_num, take_eq_snoc hall.out HX.out HY.out, rfl⟩
          case measure => omega
        · have hxy' : (x != y) = true := by simp [hxy]
          go_wp2
          go_quiet (fail)
          go_wp2
          go_ret
          exact RetB.no2 (ne_of_at HX.out HY.out hxy) _ _
      · go_wp2
        go_ret
        exact RetB.yes (eq_of_take hall.out (by rw [HL.out]; omega) (by rw [HL'.out]; omega)) _
  · go_enter Try.func51, Try.ntmps51
    go_wp2
    go_ret
    exact RetB.no (fun e => hne (by rw [← HL.out, ← HL'.out, e])) 0
theorem sameLists_any (A A' : Option Addr) (n n' c c' : Nat) (xs ys : List (List Int)) (w : World) (hx : RdT w A n xs) (hy : RdT w A' n' ys) (hs : SmT xs) (hs' : SmT ys) :
    Calls Try.prog 21 #[.slice A n c, .slice A' n' c'] w (RetB (xs = ys) w) := by
  have HL := hx.len
  have HL' := hy.len
  have hn : n ≤ 1048576 := by rw [← HL.out]; exact hs.1
  have HS := Lib.hid hs; clear hs
  have HS' := Lib.hid hs'; clear hs'
  by_cases hne : n = n'
  · subst hne
    go_enter Try.func21, Try.ntmps21
    go_wp2
    go_loopg [5] n (fun g i wr => ∃ k m : Nat, k ≤ n ∧ g = n - k ∧ i = .int .i64 k ∧ Hid (xs.take k = ys.take k) ∧ wr = w.drewN m)
    case atStart => exact ⟨0, 0, Nat.zero_le _, rfl, rfl, rfl, rfl⟩
    case round =>
      obtain ⟨k, m, hk, rfl, rfl, hall, rfl⟩ := hrel
      by_cases hlt : k < n
      · obtain ⟨b, off, Ak, nk, ck, r, rfl, HX, hc, hrd, hnk⟩ := hx.at hlt
        obtain ⟨b', off', Ak', nk', ck', r', rfl, HX', hc', hrd', hnk'⟩ := hy.at hlt
        have h1 : nk ≤ 1048576 := by have := HS.out.row HX.out; have h2 := hrd.len.out; omega
        have h2 : nk' ≤ 1048576 := by have := HS'.out.row HX'.out; have h2 := hrd'.len.out; omega
        have HQ : Hid (∀ b : Bool, (b = true ↔ r = r') → ∀ q, Calls Try.prog 51 #[.slice Ak nk ck, .slice Ak' nk' ck'] (w.drewN (m + q)) fun e w' => e = .returned (.bool b) ∧ ∃ k, w' = (w.drewN (m + q)).drewN k) :=
          fun b hb q => retB_is hb (sameInts_any Ak Ak' nk nk' ck ck' r r' _ (hrd.drewN _) (hrd'.drewN _) h1 h2)
        by_cases hrr : r = r'
        · have key := HQ.out true (by simp [hrr])
          have HE := Lib.hid hrr; clear hrr
          go_wp2
          go_quiet ((go_at_call 51; exact quiet_add (key _)))
          go_wp2
          go_roundg (n - (k + 1))
          case rel => exact ⟨k + 1, _, by omega, rfl, by go_num, take_eq_snoc hall.out (by rw [← HE.out]; exact HX.out) HX'.out, rfl⟩
          case measure => omega
        · have key := HQ.out false (by simp [hrr])
          have HE := Lib.hid hrr; clear hrr
          go_wp2
          go_quiet ((go_at_call 51; exact quiet_add (key _)))
          go_wp2
          go_ret
          exact RetB.no2 (ne_of_at HX.out HX'.out HE.out) _ _
      · go_wp2
        go_ret
        exact RetB.yes (eq_of_take hall.out (by rw [HL.out]; omega) (by rw [HL'.out]; omega)) _
  · go_enter Try.func21, Try.ntmps21
    go_wp2
    go_ret
    exact RetB.no (fun e => hne (by rw [← HL.out, ← HL'.out, e])) 0
theorem sumOf_any (A : Option Addr) (n c : Nat) (f : Nat → Int) (w : World) (hr : RdL iv w A n (rowF n f)) (hn : n ≤ 6) (hb : ∀ j, j < n → -1000 ≤ f j ∧ f j ≤ 1000) :
    Calls Try.prog 15 #[.slice A n c] w fun e w' => e = .returned (.int .i64 (sumN f n)) ∧ ∃ m, w' = w.drewN m := by
  have HB := Lib.hid hb; clear hb
  go_enter Try.func15, Try.ntmps15
  go_wp2
  go_loopg [3, 4] n (fun g s i wr => ∃ (j m : Nat) (S : Int), j ≤ n ∧ g = n - j ∧ i = .int .i64 j ∧ s = .int .i64 S ∧ Hid (S = sumN f j) ∧ -1000 * (j : Int) ≤ S ∧ S ≤ 1000 * (j : Int) ∧ wr = w.drewN m)
  case atStart => exact ⟨0, 0, 0, Nat.zero_le _, rfl, rfl, rfl, rfl, by omega, by omega, rfl⟩
  case round =>
    obtain ⟨j, m, S, hj, rfl, rfl, rfl, HS, h1, h2, rfl⟩ := hrel
    by_cases hjl : j < n
    · obtain ⟨b2, off2, x, rfl, HX, g⟩ := hr.atF hjl
      have hxb : -1000 ≤ x ∧ x ≤ 1000 := by rw [← HX.out]; exact HB.out j hjl
      obtain ⟨hx1, hx2⟩ := hxb
      go_wp2
      go_roundg (n - (j + 1))
      case rel => exact ⟨j + 1, m, S + x, by omega, rfl, by go_num, rfl, (by show _ = _; rw [sumN_step, ← HS.out, HX.out]), by omega, by omega, rfl⟩
      case measure => omega
    · go_wp2
      go_ret
      obtain rfl : j = n := by omega
      exact ⟨ret_int HS.out, _, rfl⟩
theorem columnOf_any (A : Option Addr) (n c k : Nat) (F : Nat → Nat → Int) (w : World) (hx : RdT w A n (tabF n F)) (hk : k < n) (hn : n ≤ 6) (hb : Bk n F) :
    Calls Try.prog 30 #[.slice A n c, .int .i64 k] w fun e w' => e = .returned (.int .i64 (colS n F k)) ∧ ∃ m, w' = w.drewN m := by
  have HB := Lib.hid hb; clear hb
  go_enter Try.func30, Try.ntmps30
  go_wp2
  go_loopg [5, 6] n (fun g s i wr => ∃ (j m : Nat) (S : Int), j ≤ n ∧ g = n - j ∧ i = .int .i64 j ∧ s = .int .i64 S ∧ Hid (S = sumN (fun i => F i k) j) ∧ -1000 * (j : Int) ≤ S ∧ S ≤ 1000 * (j : Int) ∧ wr = w.drewN m)
  case atStart => exact ⟨0, 0, 0, Nat.zero_le _, rfl, rfl, rfl, rfl, by omega, by omega, rfl⟩
  case round =>
    obtain ⟨j, m, S, hj, rfl, rfl, rfl, HS, h1, h2, rfl⟩ := hrel
    by_cases hjl : j < n
    · obtain ⟨b, off, b2, off2, ck, x, rfl, hc, hnc, HX, g⟩ := hx.atFF hjl hk
      have hxb : -1000 ≤ x ∧ x ≤ 1000 := by rw [← HX.out]; exact HB.out j k hjl hk
      obtain ⟨hx1, hx2⟩ := hxb
      go_wp2
      go_roundg (n - (j + 1))
      case rel => exact ⟨j + 1, m, S + x, by omega, rfl, by go_num, rfl, (by show _ = _; rw [sumN_step, ← HS.out, HX.out]), by omega, by omega, rfl⟩
      case measure => omega
    · go_wp2
      go_ret
      obtain rfl : j = n := by omega
      exact ⟨ret_int HS.out, _, rfl⟩
theorem even_iff {n : Nat} {F : Nat → Nat → Int} (h0 : ∀ i j, i < n → j < n → 0 ≤ F i j) : EvenF n F ↔ ∀ k, k < n → rowS n F k = rowS n F 0 ∧ colS n F k = rowS n F 0 := by
  constructor
  · intro h k hk
    have h1 := h k hk
    have h2 := h 0 (by omega)
    omega
  · intro h
    exact even_of (s := rowS n F 0) h0 h
def EvTo (n : Nat) (F : Nat → Nat → Int) (k : Nat) : Prop := ∀ i, i < k → rowS n F i = rowS n F 0 ∧ colS n F i = rowS n F 0
def EvenL (t : List (List Int)) : Prop := TrafOk t ∧ EvenF t.length (fOf t)
set_option maxHeartbeats 1000000 in
theorem impl_Even (A : Option Addr) (n c : Nat) (t : List (List Int)) (w : World) (hx : RdT w A n t) (hs : SmT t) :
    Calls Try.prog 26 #[.slice A n c] w (RetB (EvenL t) w) := by
  have HL := hx.len
  have HS := Lib.hid hs; clear hs
  by_cases hT : TrafOk t
  · have h6 : n ≤ 6 := by rw [← HL.out]; exact hT.six
    have HB : Hid (Bk n (fOf t)) := by have := hT.bd6; rw [HL.out] at this; exact this.k (by omega) (by omega)
    have hxF : RdT w A n (tabF n (fOf t)) := by have := hT.tab; rw [HL.out] at this; rw [← this]; exact hx
    have HV : Hid (EvenL t ↔ ∀ k, k < n → rowS n (fOf t) k = rowS n (fOf t) 0 ∧ colS n (fOf t) k = rowS n (fOf t) 0) := by
      show _ ↔ _
      rw [← even_iff (fun i j _ _ => (hT.bd i j).1)]
      unfold EvenL
      rw [HL.out]
      exact ⟨fun h => h.2, fun h => ⟨hT, h⟩⟩
    have HT := Lib.hid hT; clear hT
    obtain ⟨F, hF⟩ : ∃ F, fOf t = F := ⟨_, rfl⟩
    rw [hF] at HB hxF HV
    clear hF
    go_enter Try.func26, Try.ntmps26
    go_wp2_with (go_at_call 40; refine (retB_is (b := true) ⟨fun _ => HT.out, fun _ => rfl⟩ (impl_TrafficValid A n c t _ hx HS.out)).mono ?_; rintro e w1 ⟨rfl, m1, rfl⟩)
    go_loopg [9] n (fun g i wr => ∃ k m : Nat, k ≤ n ∧ g = n - k ∧ i = .int .i64 k ∧ Hid (EvTo n F k) ∧ wr = w.drewN m)
    case atStart => exact ⟨0, m1, Nat.zero_le _, rfl, rfl, fun i h => absurd h (Nat.not_lt_zero _), rfl⟩
    case round =>
      obtain ⟨k, m, hk, rfl, rfl, HE, rfl⟩ := hrel
      by_cases hlt : k < n
      · have h0n : 0 < n := by omega
        go_wp2_with fail
        refine (impl_rowSum A n c k F _ (hxF.drewN _) hlt h6 HB.out).mono ?_
        rintro e w2 ⟨rfl, m2, rfl⟩
        go_wp2_with fail
        refine (impl_rowSum A n c 0 F _ (hxF.drewN _) h0n h6 HB.out).mono ?_
        rintro e w3 ⟨rfl, m3, rfl⟩
        obtain ⟨R, HR⟩ : ∃ R, Hid (rowS n F k = R) := ⟨_, rfl⟩
        obtain ⟨R0, HR0⟩ : ∃ R, Hid (rowS n F 0 = R) := ⟨_, rfl⟩
        obtain ⟨C, HC⟩ : ∃ R, Hid (colS n F k = R) := ⟨_, rfl⟩
        have HNO : Hid (¬ (R = R0 ∧ C = R0) → ¬ EvenL t) := fun h he => h (by
          have h1 := (HV.out.1 he) k hlt
          rw [HR.out, HR0.out, HC.out] at h1; exact h1)
        rw [HR.out, HR0.out]
        by_cases hrr : R = R0
        · have hz1 : (R != R0) = false := by simp [hrr]
          have HRR := Lib.hid hrr; clear hrr
          go_wp2_with fail
          refine (impl_columnSum A n c k F _ (hxF.drewN _) hlt h6 HB.out).mono ?_
          rintro e w4 ⟨rfl, m4, rfl⟩
          go_wp2_with fail
          refine (impl_rowSum A n c 0 F _ (hxF.drewN _) h0n h6 HB.out).mono ?_
          rintro e w5 ⟨rfl, m5, rfl⟩
          rw [HC.out, HR0.out]
          by_cases hcr : C = R0
          · have hz2 : (C != R0) = false := by simp [hcr]
            have HCC := Lib.hid hcr; clear hcr
            go_wp2
            go_roundg (n - (k + 1))
            case rel => exact ⟨k + 1, _, by omega, rfl, by go_num, (fun i hi => by
              rcases (by omega : i < k ∨ i = k) with h1 | rfl
              · exact HE.out i h1
              · rw [HR.out, HR0.out, HC.out]; exact ⟨HRR.out, HCC.out⟩), rfl⟩
            case measure => omega
          · have hz2 : (C != R0) = true := by simp [hcr]
            have HCC := Lib.hid hcr; clear hcr
            go_wp2
            go_ret
            exact RetB.no (HNO.out (fun h => HCC.out h.2)) _
        · have hz1 : (R != R0) = true := by simp [hrr]
          have HRR := Lib.hid hrr; clear hrr
          go_wp2
          go_ret
          exact RetB.no (HNO.out (fun h => HRR.out h.1)) _
      · go_wp2
        go_ret
        exact RetB.yes (HV.out.2 (fun i hi => HE.out i (by omega))) _
  · have HT := Lib.hid hT; clear hT
    go_enter Try.func26, Try.ntmps26
    go_wp2_with (go_at_call 40; refine (retB_is (b := false) ⟨fun h => by simp at h, fun h => absurd h HT.out⟩ (impl_TrafficValid A n c t _ hx HS.out)).mono ?_; rintro e w1 ⟨rfl, m1, rfl⟩)
    go_ret
    exact RetB.no (fun h => HT.out h.1) _
/-- A small table that reads. -/
def TrafGot (w : World) (e : Ending) (w' : World) : Prop := ∃ (A : Option Addr) (n c : Nat) (t : List (List Int)), e = .returned (.slice A n c) ∧ RdT w' A n t ∧ n ≤ c ∧ SmT t ∧ Below w.heap.size w w'
theorem DrawTrafficAll_any (A : Option Addr) (n c : Nat) (zs : List Int) (w : World) (hx : RdL uv w A n zs) (hz : ∀ z ∈ zs, 0 ≤ z ∧ z ≤ 255) (hc : n ≤ c) (hn : n ≤ 1048576) :
    Calls Try.prog 24 #[.slice A n c] w (TrafGot w) := by
  have HZ := Lib.hid hz; clear hz
  go_enter Try.func24, Try.ntmps24
  go_wp2_with fail
  refine (l20Open_any A n c zs _ hx HZ.out hc hn).mono ?_
  rintro x w1 ⟨rb, rfl, hrb, R1, b1⟩
  go_wp2_with fail
  refine (l20Traffic_any w1 rb 0 9 R1 (by omega) (by omega) (by omega)).mono ?_
  rintro x w2 ⟨A2, n2, c2, rows, rfl, hT, hsm, R2, G2⟩
  have hs := hsm.out
  go_wp2
  go_ret
  exact ⟨A2, n2, c2, rows, rfl, hT.rd, hT.cap.1, hs, drawn_below b1 b1.size hrb G2⟩
theorem DrawFillUp_any (A : Option Addr) (n c : Nat) (zs : List Int) (w : World) (hx : RdL uv w A n zs) (hz : ∀ z ∈ zs, 0 ≤ z ∧ z ≤ 255) (hc : n ≤ c) (hn : n ≤ 1048576) :
    Calls Try.prog 27 #[.slice A n c] w (TrafGot w) := by
  have HZ := Lib.hid hz; clear hz
  go_enter Try.func27, Try.ntmps27
  go_wp2_with fail
  refine (l20Open_any A n c zs _ hx HZ.out hc hn).mono ?_
  rintro x w1 ⟨rb, rfl, hrb, R1, b1⟩
  go_wp2_with fail
  refine (l20Traffic_any w1 rb 0 9 R1 (by omega) (by omega) (by omega)).mono ?_
  rintro x w2 ⟨A2, n2, c2, rows, rfl, hT, hsm, R2, G2⟩
  have hs := hsm.out
  go_wp2
  go_ret
  exact ⟨A2, n2, c2, rows, rfl, hT.rd, hT.cap.1, hs, drawn_below b1 b1.size hrb G2⟩
theorem DrawFrameBest_any (A : Option Addr) (n c : Nat) (zs : List Int) (w : World) (hx : RdL uv w A n zs) (hz : ∀ z ∈ zs, 0 ≤ z ∧ z ≤ 255) (hc : n ≤ c) (hn : n ≤ 1048576) :
    Calls Try.prog 19 #[.slice A n c] w (TrafGot w) := by
  have HZ := Lib.hid hz; clear hz
  go_enter Try.func19, Try.ntmps19
  go_wp2_with fail
  refine (l20Open_any A n c zs _ hx HZ.out hc hn).mono ?_
  rintro x w1 ⟨rb, rfl, hrb, R1, b1⟩
  go_wp2_with fail
  refine (l20Traffic_any w1 rb 0 9 R1 (by omega) (by omega) (by omega)).mono ?_
  rintro x w2 ⟨A2, n2, c2, rows, rfl, hT, hsm, R2, G2⟩
  have hs := hsm.out
  go_wp2
  go_ret
  exact ⟨A2, n2, c2, rows, rfl, hT.rd, hT.cap.1, hs, drawn_below b1 b1.size hrb G2⟩
theorem DrawFrameGreedy_any (A : Option Addr) (n c : Nat) (zs : List Int) (w : World) (hx : RdL uv w A n zs) (hz : ∀ z ∈ zs, 0 ≤ z ∧ z ≤ 255) (hc : n ≤ c) (hn : n ≤ 1048576) :
    Calls Try.prog 31 #[.slice A n c] w (TrafGot w) := by
  have HZ := Lib.hid hz; clear hz
  go_enter Try.func31, Try.ntmps31
  go_wp2_with fail
  refine (l20Open_any A n c zs _ hx HZ.out hc hn).mono ?_
  rintro x w1 ⟨rb, rfl, hrb, R1, b1⟩
  go_wp2_with fail
  refine (l20Traffic_any w1 rb 0 9 R1 (by omega) (by omega) (by omega)).mono ?_
  rintro x w2 ⟨A2, n2, c2, rows, rfl, hT, hsm, R2, G2⟩
  have hs := hsm.out
  go_wp2
  go_ret
  exact ⟨A2, n2, c2, rows, rfl, hT.rd, hT.cap.1, hs, drawn_below b1 b1.size hrb G2⟩
end Go.Proofs.Ythfjlellaojdmaa
