/- StepWay of both: the ways of the step network. Condition: numbers of a plain size. -/
import Derived.Test.Ytiahpaakkijejaa3a
namespace Go.Proofs.Ytiahpaakkijejaa
open Go.RowKit
set_option linter.unusedSimpArgs false
set_option linter.unusedVariables false
open Classical in
noncomputable def wayL (l i o : Int) : List Int × Bool := if (0 < stepsI l ∧ 0 ≤ i ∧ i < l) ∧ 0 ≤ o ∧ o < l then (wayN l.toNat (stepsI l).toNat i.toNat o.toNat, true) else ([], false)
theorem way_no {l i o : Int} (h : ¬ ((0 < stepsI l ∧ 0 ≤ i ∧ i < l) ∧ 0 ≤ o ∧ o < l)) : wayL l i o = ([], false) := by unfold wayL; rw [if_neg h]
theorem way_yes {n st i o : Nat} (h : NetOk n st) (hi : i < n) (ho : o < n) (hs : stepsI n = st) : wayL n i o = (wayN n st i o, true) := by
  obtain ⟨h1, h2, h3, h4⟩ := net_bd h
  unfold wayL
  rw [if_pos (by omega), hs]
  simp
theorem way_succ (n st i o s : Nat) : wayTo n st i o (s + 1) = (2 * wayTo n st i o s + o / 2 ^ (st - 1 - s) % 2) % n := rfl
theorem wayN_take {n st i o k : Nat} (h : k < st) : (wayN n st i o).take (k + 1) = (wayN n st i o).take k ++ [(wayTo n st i o (k + 1) : Int)] := take_snoc' (wayN_at h)
set_option maxHeartbeats 2000000 in
theorem impl_StepWay (l i o : Int) (w : World) : Calls Try.prog 15 #[.int .i64 l, .int .i64 i, .int .i64 o] w (RetOB iv 3 (wayL l i o) w) := by
  rcases lines_cases l with ⟨h1, -⟩ | ⟨n, st, rfl, hN, h1, -⟩
  · have HE : Hid (wayL l i o = ([], false)) := way_no (by omega)
    have H1 := Lib.hid h1; clear h1
    go_enter Try.func15, Try.ntmps15
    go_wp2_with (go_at_call 47; refine (impl_stepsOf l _).mono ?_; rintro e w1 ⟨rfl, m1, rfl⟩; rw [H1.out])
    go_ret2
    exact RetOB.mk [] HE.out OwnL.nil (below_drewN (Below.refl _ _) _)
  · obtain ⟨b1, b2, b3, b4⟩ := net_bd hN
    have H1 := Lib.hid h1
    by_cases hok : (0 ≤ i ∧ i < n) ∧ 0 ≤ o ∧ o < n
    · obtain ⟨⟨hi0, hi1⟩, ho0, ho1⟩ := hok
      obtain ⟨I, rfl⟩ := Int.eq_ofNat_of_zero_le hi0
      obtain ⟨O, rfl⟩ := Int.eq_ofNat_of_zero_le ho0
      have hI : I < n := by omega
      have hO : O < n := by omega
      have HE := Lib.hid (way_yes hN hI hO h1)
      have HN := Lib.hid hN
      have hmk := run_make_row' (P := Try.prog) 25 3 (.int .i64 0) 8 Try.underlying25 info_int rfl .i64 .i64 st (by omega) (by omega)
      clear h1 hN hi0 hi1 ho0 ho1
      have z1 : decide (n ≤ I) = false := by simp; omega
      have z2 : decide (n ≤ O) = false := by simp; omega
      have z3 : decide ((st : Int) < 0) = false := decide_eq_false (by omega)
      have z4 : decide ((I : Int) < 0) = false := decide_eq_false (by omega)
      have z5 : decide ((O : Int) < 0) = false := decide_eq_false (by omega)
      go_enter Try.func15, Try.ntmps15
      go_wp2_with (go_at_call 47; refine (impl_stepsOf n _).mono ?_; rintro e w1 ⟨rfl, m1, rfl⟩; rw [H1.out])
      clear hmk
      go_loopg [10, 39] st (fun g s10 s39 wr => ∃ k : Nat, k ≤ st ∧ g = st - k ∧ s39 = .int .i64 k ∧ s10 = .int .i64 (wayTo n st I O k) ∧ OwnL iv wr w.heap.size 3 (some ⟨w.heap.size, 0, none⟩) st st ((wayN n st I O).take k ++ List.replicate (st - k) 0) ∧ Below w.heap.size w wr)
      case atStart => exact ⟨0, Nat.zero_le _, rfl, rfl, rfl, OwnL.made (w.drewN m1) 0 st (by unfold maxLen; omega) _ (Nat.le_refl _), (below_drewN (Below.refl _ _) m1).alloc (Nat.le_refl _) _⟩
      case round =>
        obtain ⟨k, hk, rfl, rfl, rfl, hown, hbel⟩ := hrel
        by_cases hlt : k < st
        · obtain ⟨g', y, hA, hB, hg', HY, gc, gf⟩ := hown.at hlt
          injection hA with hA; injection hA with hA; subst hA
          obtain ⟨V, HV⟩ : ∃ V, Hid (wayTo n st I O k = V) := ⟨_, rfl⟩
          have hV : V < n := by rw [← HV.out]; exact wayTo_lt HN.out hI k
          rw [HV.out]
          have e1 : ((st : Int) - 1 - k).toNat = st - 1 - k := by omega
          have e2 : (O : Int) / 2 ^ (st - 1 - k) = ((O / 2 ^ (st - 1 - k) : Nat) : Int) := by simp
          obtain ⟨Y, HY2⟩ : ∃ Y, Hid (O / 2 ^ (st - 1 - k) = Y) := ⟨_, rfl⟩
          have e3 := i64_and1 (Y : Int)
          have hY0 : Y ≤ 8 := by rw [← HY2.out]; exact Nat.le_trans (Nat.div_le_self _ _) (by omega)
          have hY1 : (0 : Int) ≤ (Y : Int) % 2 := by omega
          have hY2 : (Y : Int) % 2 < 2 := by omega
          rw [HY2.out] at e2
          have HW : Hid ((2 * (V : Int) + (Y : Int) % 2) % (n : Int) = (wayTo n st I O (k + 1) : Int)) := by
            show _ = _
            rw [way_succ, HV.out, HY2.out]; simp
          have hm0 : (0 : Int) ≤ (2 * (V : Int) + (Y : Int) % 2) % (n : Int) := Int.emod_nonneg _ (by omega)
          go_wp2
          clear e1 e2 e3 hY1 hY2 hm0
          have HT := Lib.hid (wayN_at (n := n) (st := st) (i := I) (o := O) hlt)
          go_roundg (st - (k + 1))
          case rel => exact ⟨k + 1, by omega, rfl, by go_num, by rw [HW.out], by rw [HW.out, ← set_fill (wayN_len n st I O) hlt HT.out]; exact hown.set k _, hbel.setCell (Nat.le_refl _) _⟩
          case measure => omega
        · go_wp2
          go_ret2
          obtain rfl : k = st := by omega
          rw [Nat.sub_self, List.take_of_length_le (by rw [wayN_len]; exact Nat.le_refl _)] at hown
          exact RetOB.mk _ HE.out (by simpa using hown) hbel
    · have HE : Hid (wayL n i o = ([], false)) := way_no (by omega)
      clear h1 hN
      go_enter Try.func15, Try.ntmps15
      by_cases h1 : i < 0
      · go_wp2_with (go_at_call 47; refine (impl_stepsOf n _).mono ?_; rintro e w1 ⟨rfl, m1, rfl⟩; rw [H1.out])
        go_ret2
        exact RetOB.mk [] HE.out OwnL.nil (below_drewN (Below.refl _ _) _)
      · have z1 : decide (i < 0) = false := by simp; omega
        by_cases h2 : (n : Int) ≤ i
        · go_wp2_with (go_at_call 47; refine (impl_stepsOf n _).mono ?_; rintro e w1 ⟨rfl, m1, rfl⟩; rw [H1.out])
          go_ret2
          exact RetOB.mk [] HE.out OwnL.nil (below_drewN (Below.refl _ _) _)
        · have z2 : decide ((n : Int) ≤ i) = false := by simp; omega
          by_cases h3 : o < 0
          · go_wp2_with (go_at_call 47; refine (impl_stepsOf n _).mono ?_; rintro e w1 ⟨rfl, m1, rfl⟩; rw [H1.out])
            go_ret2
            exact RetOB.mk [] HE.out OwnL.nil (below_drewN (Below.refl _ _) _)
          · have z3 : decide (o < 0) = false := by simp; omega
            have h4 : (n : Int) ≤ o := by omega
            go_wp2_with (go_at_call 47; refine (impl_stepsOf n _).mono ?_; rintro e w1 ⟨rfl, m1, rfl⟩; rw [H1.out])
            go_ret2
            exact RetOB.mk [] HE.out OwnL.nil (below_drewN (Below.refl _ _) _)
set_option maxHeartbeats 2000000 in
theorem spec_StepWay (l i o : Int) (w : World) : Calls Try.prog 16 #[.int .i64 l, .int .i64 i, .int .i64 o] w (RetOB iv 3 (wayL l i o) w) := by
  have O0 : OwnL iv (w.alloc (.cells #[] 3)) w.heap.size 3 (some ⟨w.heap.size, 0, none⟩) 0 0 [] := OwnL.lit w [] (by simp) (Nat.le_refl _)
  have B0 := below_box w (.cells #[] 3)
  rcases lines_cases l with ⟨h0, h1, -⟩ | ⟨n, st, rfl, hN, h1, h2, -⟩
  · have HE : Hid (wayL l i o = ([], false)) := way_no (by omega)
    have H1 := Lib.hid h1; clear h0 h1
    go_enter Try.func16, Try.ntmps16
    go_wp2_with (go_at_call 48; refine (spec_l3Lines l _).mono ?_; rintro e w1 ⟨rfl, m1, rfl⟩; rw [H1.out])
    go_ret2
    exact RetOB.mk [] HE.out (O0.drewN _) (below_drewN B0 _)
  · obtain ⟨b1, b2, b3, b4⟩ := net_bd hN
    have H2 := Lib.hid h2
    have HN := Lib.hid hN
    have hwr : IntKind.i64.wrap ((n : Int) - 1) = (n : Int) - 1 := IntWalk.i64_in _ (by omega)
    by_cases hok : (0 ≤ i ∧ i < n) ∧ 0 ≤ o ∧ o < n
    · obtain ⟨⟨hi0, hi1⟩, ho0, ho1⟩ := hok
      obtain ⟨I, rfl⟩ := Int.eq_ofNat_of_zero_le hi0
      obtain ⟨O, rfl⟩ := Int.eq_ofNat_of_zero_le ho0
      have hI : I < n := by omega
      have hO : O < n := by omega
      have HE := Lib.hid (way_yes hN hI hO h1)
      have HI1 : Hid (inB I 0 ((n : Int) - 1) = true) := by show _ = _; simp [inB]; omega
      have HI2 : Hid (inB O 0 ((n : Int) - 1) = true) := by show _ = _; simp [inB]; omega
      clear h1 h2 hN hi0 hi1 ho0 ho1
      go_enter Try.func16, Try.ntmps16
      go_wp2_with (first
        | (go_at_call 48; refine (spec_l3Lines n _).mono ?_; rintro e w1 ⟨rfl, m1, rfl⟩; rw [H2.out])
        | (go_at_call 50; refine (spec_l3Log n st _ HN.out).mono ?_; rintro e w4 ⟨rfl, m4, rfl⟩)
        | (go_at_call_of 49 (I : Int); refine (l1_is HI1.out).mono ?_; rintro e w2 ⟨rfl, m2, rfl⟩)
        | (go_at_call 49; refine (l1_is HI2.out).mono ?_; rintro e w3 ⟨rfl, m3, rfl⟩))
      have O1 := O0.drewN (m1 + m2 + m3 + m4)
      have B1 := below_drewN B0 (m1 + m2 + m3 + m4)
      generalize hW : (w.alloc (.cells #[] 3)).drewN (m1 + m2 + m3 + m4) = w1 at O1 B1 ⊢
      clear hW
      go_loopg [8, 9, 10] st (fun g s8 s9 s10 wr => ∃ (k cc : Nat) (A : Option Addr), k ≤ st ∧ g = st - k ∧ s10 = .int .i64 ((st : Int) - 1 - k) ∧ s9 = .int .i64 (wayTo n st I O k) ∧ s8 = .slice A k cc ∧ OwnL iv wr w.heap.size 3 A k cc ((wayN n st I O).take k) ∧ Below w.heap.size w wr)
      case atStart => exact ⟨0, _, _, Nat.zero_le _, rfl, by simp, rfl, rfl, O1, B1⟩
      case round =>
        obtain ⟨k, cc, A, hk, rfl, rfl, rfl, rfl, hown, hbel⟩ := hrel
        have hsz := hbel.size
        by_cases hlt : k < st
        · obtain ⟨V, HV⟩ : ∃ V, Hid (wayTo n st I O k = V) := ⟨_, rfl⟩
          have hV : V < n := by rw [← HV.out]; exact wayTo_lt HN.out hI k
          rw [HV.out]
          have e1 : ((st : Int) - 1 - k).toNat = st - 1 - k := by omega
          have e2 : (O : Int) / 2 ^ (st - 1 - k) = ((O / 2 ^ (st - 1 - k) : Nat) : Int) := by simp
          obtain ⟨Y, HY2⟩ : ∃ Y, Hid (O / 2 ^ (st - 1 - k) = Y) := ⟨_, rfl⟩
          have hY0 : Y ≤ 8 := by rw [← HY2.out]; exact Nat.le_trans (Nat.div_le_self _ _) (by omega)
          have hY1 : (0 : Int) ≤ (Y : Int) % 2 := by omega
          have hY2 : (Y : Int) % 2 < 2 := by omega
          rw [HY2.out] at e2
          have HW : Hid ((2 * (V : Int) + (Y : Int) % 2) % (n : Int) = (wayTo n st I O (k + 1) : Int)) := by
            show _ = _
            rw [way_succ, HV.out, HY2.out]; simp
          have hm0 : (0 : Int) ≤ (2 * (V : Int) + (Y : Int) % 2) % (n : Int) := Int.emod_nonneg _ (by omega)
          go_wp2_with (at_builtin; refine wpList_appL _ rfl (.tmp 47) (.tmp 49) _ rfl w.heap.size 3 (.int .i64 0) 8 Try.underlying25 info_int rfl A k cc _ rfl (hown.alloc (.cells #[.int .i64 ((2 * (V : Int) + (Y : Int) % 2) % (n : Int))] 3)) _ 1 1 [(2 * (V : Int) + (Y : Int) % 2) % (n : Int)] rfl (RdL.one wr _ _) (fun _ => rfl) (by unfold maxLen; omega) (by omega) (by simp; omega) ?_; intro A5 c5 w5 O5 G5 L5)
          have B5 : Below w.heap.size w w5 := bgrown (bbox hbel hsz (.cells #[.int .i64 ((2 * (V : Int) + (Y : Int) % 2) % (n : Int))] 3)) G5 (by simp; omega) (fun g hg => (hown.lt hg).1)
          clear e1 e2 hY1 hY2 hm0
          have HT := Lib.hid (wayN_take (n := n) (st := st) (i := I) (o := O) hlt)
          go_roundg (st - (k + 1))
          case rel => exact ⟨k + 1, c5, A5, by omega, rfl, by go_num, by rw [HW.out], rfl, by rw [HT.out, ← HW.out]; exact O5, B5⟩
          case measure => omega
        · go_wp2
          go_ret2
          obtain rfl : k = st := by omega
          rw [List.take_of_length_le (by rw [wayN_len]; exact Nat.le_refl _)] at hown
          exact RetOB.mk _ HE.out hown hbel
    · have HE : Hid (wayL n i o = ([], false)) := way_no (by omega)
      clear h1 h2 hN
      cases hin : inB i 0 ((n : Int) - 1) with
      | false =>
        have HIN := Lib.hid hin; clear hin
        go_enter Try.func16, Try.ntmps16
        go_wp2_with (first
          | (go_at_call 48; refine (spec_l3Lines n _).mono ?_; rintro e w1 ⟨rfl, m1, rfl⟩; rw [H2.out])
          | (go_at_call 49; refine (l1_is HIN.out).mono ?_; rintro e w2 ⟨rfl, m2, rfl⟩))
        go_ret2
        exact RetOB.mk [] HE.out (O0.drewN _) (below_drewN B0 _)
      | true =>
        have HIN := Lib.hid hin; clear hin
        have HIO : Hid (inB o 0 ((n : Int) - 1) = false) := by
          show _ = _
          have := HIN.out
          cases h : inB o 0 ((n : Int) - 1) with
          | false => rfl
          | true => simp [inB] at h this; omega
        go_enter Try.func16, Try.ntmps16
        go_wp2_with (first
          | (go_at_call 48; refine (spec_l3Lines n _).mono ?_; rintro e w1 ⟨rfl, m1, rfl⟩; rw [H2.out])
          | (go_at_call_of 49 i; refine (l1_is HIN.out).mono ?_; rintro e w2 ⟨rfl, m2, rfl⟩)
          | (go_at_call 49; refine (l1_is HIO.out).mono ?_; rintro e w3 ⟨rfl, m3, rfl⟩))
        go_ret2
        exact RetOB.mk [] HE.out (O0.drewN _) (below_drewN B0 _)
end Go.Proofs.Ytiahpaakkijejaa
