/- l1Factorial of the reference. Condition: a number from 0 to 6. -/
import Derived.Test.Ythfjlellaojdmaa5v2
import Derived.Test.YthfjlellaojdmaaApp
namespace Go.Proofs.Ythfjlellaojdmaa
open Go.RowKit
set_option linter.unusedSimpArgs false
set_option linter.unusedVariables false
theorem fact_vals : factN 0 = 1 ∧ factN 1 = 1 ∧ factN 2 = 2 ∧ factN 3 = 6 ∧ factN 4 = 24 ∧ factN 5 = 120 ∧ factN 6 = 720 := by decide
theorem spec_l1Factorial (n : Nat) (w : World) (hn : n ≤ 6) :
    Calls Try.prog 63 #[.int .i64 n] w fun e w' => e = .returned (.int .i64 (factN n)) ∧ ∃ m, w' = w.drewN m := by
  obtain ⟨v0, v1, v2, v3, v4, v5, v6⟩ := fact_vals
  go_enter Try.func63, Try.ntmps63
  go_wp2
  go_loopg [3, 4] n (fun g s3 s4 wr => ∃ j m : Nat, 1 ≤ j ∧ j ≤ max n 1 ∧ g = n + 1 - j ∧ s4 = .int .i64 ((j : Int) + 1) ∧ s3 = .int .i64 (factN j) ∧ wr = w.drewN m)
  case atStart => exact ⟨1, 0, Nat.le_refl _, by omega, by omega, rfl, by rw [v1]; rfl, rfl⟩
  case round =>
    obtain ⟨j, m, hj1, hj, rfl, rfl, rfl, rfl⟩ := hrel
    by_cases hlt : j + 1 ≤ n
    · rcases (by omega : j = 1 ∨ j = 2 ∨ j = 3 ∨ j = 4 ∨ j = 5) with rfl | rfl | rfl | rfl | rfl
      all_goals
        simp only [v1, v2, v3, v4, v5]
        go_wp2
      · go_roundg (n + 1 - 2)
        case rel => exact ⟨2, m, by omega, by omega, rfl, by go_num, by rw [v2]; rfl, rfl⟩
        case measure => omega
      · go_roundg (n + 1 - 3)
        case rel => exact ⟨3, m, by omega, by omega, rfl, by go_num, by rw [v3]; rfl, rfl⟩
        case measure => omega
      · go_roundg (n + 1 - 4)
        case rel => exact ⟨4, m, by omega, by omega, rfl, by go_num, by rw [v4]; rfl, rfl⟩
        case measure => omega
      · go_roundg (n + 1 - 5)
        case rel => exact ⟨5, m, by omega, by omega, rfl, by go_num, by rw [v5]; rfl, rfl⟩
        case measure => omega
      · go_roundg (n + 1 - 6)
        case rel => exact ⟨6, m, by omega, by omega, rfl, by go_num, by rw [v6]; rfl, rfl⟩
        case measure => omega
    · have HE : Hid (factN j = factN n) := by
        show _ = _
        rcases (by omega : n = 0 ∨ n = j) with rfl | rfl
        · obtain rfl : j = 1 := by omega
          rfl
        · rfl
      go_wp2
      go_ret
      exact ⟨by rw [HE.out]; rfl, _, rfl⟩
set_option maxRecDepth 100000 in
set_option maxHeartbeats 2000000 in
theorem spec_PermOf (n r : Nat) (w : World) (hn : n ≤ 6) (hr : r < factN n) :
    Calls Try.prog 64 #[.int .i64 n, .int .i64 r] w fun e w' => ∃ A' c', e = .returned (.tuple #[.slice A' n c', .bool true]) ∧ OwnL iv w' w.heap.size 3 A' n c' (permL n (upto n) r) ∧ Below w.heap.size w w' := by
  have hf : factN n ≤ 720 := by
    obtain ⟨v0, v1, v2, v3, v4, v5, v6⟩ := fact_vals
    rcases (by omega : n = 0 ∨ n = 1 ∨ n = 2 ∨ n = 3 ∨ n = 4 ∨ n = 5 ∨ n = 6) with rfl | rfl | rfl | rfl | rfl | rfl | rfl <;> omega
  obtain ⟨FN, HFN⟩ : ∃ f, Hid (factN n = f) := ⟨_, rfl⟩
  have HR := Lib.hid hr
  rw [HFN.out] at hr hf
  have H1 : Hid (inB (n : Int) 0 6 = true) := by show _ = _; simp [inB]; omega
  have H2 : Hid (inB (r : Int) 0 ((FN : Int) - 1) = true) := by show _ = _; simp [inB]; omega
  go_enter Try.func64, Try.ntmps64
  go_wp2_with fail
  refine (l1_is H1.out).mono ?_
  rintro e w1 ⟨rfl, m1, rfl⟩
  go_wp2_with fail
  refine (spec_l1Factorial n _ hn).mono ?_
  rintro e w2 ⟨rfl, m2, rfl⟩
  rw [HFN.out]
  go_wp2_with fail
  refine (l1_is H2.out).mono ?_
  rintro e w3 ⟨rfl, m3, rfl⟩
  have hO0 : OwnL iv ((w.drewN (m1 + m2 + m3)).alloc (.cells #[] 3)) w.heap.size 3 (some ⟨w.heap.size, 0, none⟩) 0 0 [] := OwnL.lit (w.drewN (m1 + m2 + m3)) [] (by simp) (Nat.le_refl _)
  have hb0 : Below w.heap.size w ((w.drewN (m1 + m2 + m3)).alloc (.cells #[] 3)) := bbox (below_drewN (Below.refl _ _) _) (Nat.le_refl _) _
  go_wp2
  go_loopg [6, 7] n (fun g s6 s7 wr => ∃ (k : Nat) (A6 : Option Addr) (c6 : Nat), k ≤ n ∧ g = n - k ∧ s7 = .int .i64 k ∧ s6 = .slice A6 k c6 ∧ OwnL iv wr w.heap.size 3 A6 k c6 (upto k) ∧ Below w.heap.size w wr)
  case atStart => exact ⟨0, _, _, Nat.zero_le _, rfl, rfl, rfl, hO0, hb0⟩
  case round =>
    clear hO0 hb0
    obtain ⟨k, A6, c6, hk, rfl, rfl, rfl, hO, hbel⟩ := hrel
    have hz := hbel.size
    by_cases hlt : k < n
    · go_wp2_with (first
        | (at_builtin; refine wpList_appLN (emb := iv) _ rfl (.tmp 29) (.tmp 31) _ rfl w.heap.size 3 (.int .i64 0) 8 Try.underlying30 info_int rfl A6 k c6 (upto k) rfl (hO.alloc _) _ 1 1 [(k : Int)] rfl (rd_int _ _) (fun _ => rfl) (k + 1) rfl _ rfl (by unfold maxLen; omega) (by omega) (by simp; omega) ?_; intro A8 c8 w8 O8 G8 L8)
        | fail)
      have z8 := G8.size
      simp at z8
      have hb8 : Below w.heap.size w w8 := bgrown (bbox hbel hz _) G8 (by simp; omega) (fun g hg => (hO.lt hg).1)
      go_roundg (n - (k + 1))
      case rel => exact ⟨k + 1, A8, c8, by omega, rfl, by go_num, rfl, by rw [upto_succ]; exact O8, hb8⟩
      case measure => omega
    · obtain rfl : n = k := by omega
      have hP0 : OwnL iv (wr.alloc (.cells #[] 3)) w.heap.size 3 (some ⟨wr.heap.size, 0, none⟩) 0 0 [] := OwnL.lit wr [] (by simp) hz
      have hO1 := hO.alloc (.cells #[] 3)
      have hb1 := bbox hbel hz (.cells #[] 3)
      have hne1 : ∀ b, blk A6 = some b → blk (some (⟨wr.heap.size, 0, none⟩ : Addr)) ≠ some b := fun b hb e => by rw [blk_some] at e; injection e with e; have := (hO.lt hb).2; omega
      go_wp2
      go_loopg [1, 6, 8, 9] n (fun g s1 s6 s8 s9 wr => ∃ (m r' d : Nat) (l o : List Int) (A6 A8 : Option Addr) (c6 c8 : Nat), m + d = n ∧ m = g ∧ s9 = .int .i64 ((m : Int) - 1) ∧ s1 = .int .i64 r' ∧ s6 = .slice A6 m c6 ∧ s8 = .slice A8 d c8 ∧ OwnL iv wr w.heap.size 3 A6 m c6 l ∧ OwnL iv wr w.heap.size 3 A8 d c8 o ∧ (∀ b, blk A6 = some b → blk A8 ≠ some b) ∧ Hid (r' < factN m ∧ o ++ permL m l r' = permL n (upto n) r) ∧ Below w.heap.size w wr)
      case atStart => exact ⟨n, r, 0, upto n, [], A6, _, c6, _, by omega, rfl, rfl, rfl, rfl, rfl, hO1, hP0, hne1, ⟨HR.out, rfl⟩, hb1⟩
      case round =>
        clear hO hO1 hP0 hb1 hbel hne1 hz
        obtain ⟨m, r', d, l, o, A6, A8, c6, c8, hmd, rfl, rfl, rfl, rfl, rfl, hO, hP, hne, HI, hbel⟩ := hrel
        have hz := hbel.size
        rcases Nat.eq_zero_or_pos m with h0 | h0
        · subst h0
          obtain rfl : d = n := by omega
          go_wp2
          go_ret2
          have h9 := HI.out.2
          have h8 : o = permL d (upto d) r := by rw [← h9]; exact (List.append_nil o).symm
          exact ⟨A8, c8, rfl, by rw [← h8]; exact hP, hbel⟩
        · obtain ⟨m', rfl⟩ : ∃ m', m = m' + 1 := ⟨m - 1, by omega⟩
          have e9 : ((m' + 1 : Nat) : Int) - 1 = (m' : Int) := by omega
          rw [e9]
          have HLL := hO.len
          obtain ⟨f, hf'⟩ : ∃ f, factN m' = f := ⟨_, rfl⟩
          obtain ⟨q, hq⟩ : ∃ q, r' / f = q := ⟨_, rfl⟩
          obtain ⟨r2, hr2⟩ : ∃ q, r' % f = q := ⟨_, rfl⟩
          have hfp : 0 < f := by rw [← hf']; exact factN_pos m'
          have hqm : q < m' + 1 := by rw [← hq, ← hf']; exact quo_lt HI.out.1
          have hr2f : r2 < f := by rw [← hr2]; exact Nat.mod_lt _ hfp
          have hrf : r' < 1000 := by
            have h1 := HI.out.1
            obtain ⟨v0, v1, v2, v3, v4, v5, v6⟩ := fact_vals
            rcases (by omega : m' = 0 ∨ m' = 1 ∨ m' = 2 ∨ m' = 3 ∨ m' = 4 ∨ m' = 5) with rfl | rfl | rfl | rfl | rfl | rfl <;> (simp only [Nat.zero_add, Nat.reduceAdd, v1, v2, v3, v4, v5, v6] at h1; omega)
          have hff : f ≤ 720 := by
            obtain ⟨v0, v1, v2, v3, v4, v5, v6⟩ := fact_vals
            rcases (by omega : m' = 0 ∨ m' = 1 ∨ m' = 2 ∨ m' = 3 ∨ m' = 4 ∨ m' = 5) with rfl | rfl | rfl | rfl | rfl | rfl <;> omega
          have hqI : (r' : Int) / (f : Int) = (q : Int) := by rw [← hq]; exact (Int.natCast_ediv r' f).symm
          have hrI : (r' : Int) % (f : Int) = (r2 : Int) := by rw [← hr2]; exact (Int.natCast_emod r' f).symm
          have HFE := Lib.hid hf'
          have HPE : Hid (permL (m' + 1) l r' = l.getD q 0 :: permL m' (l.eraseIdx q) r2) := by show _ = _; rw [permL_succ, hf', hq, hr2]
          clear hf' hq hr2 e9
          go_wp2_with fail
          refine (spec_l1Factorial m' _ (by omega)).mono ?_
          rintro e w3 ⟨rfl, m3, rfl⟩
          rw [HFE.out]
          go_wp2_with fail
          refine (spec_l1Factorial m' _ (by omega)).mono ?_
          rintro e w4 ⟨rfl, m4, rfl⟩
          rw [HFE.out]
          obtain ⟨gl, x, hA, p1, p2, HX, p3, p4⟩ := hO.at (k := q) hqm
          subst hA
          have hc6 := hO.cap.1
          go_wp2_with (first
            | (at_builtin; refine wpList_appLN (emb := iv) _ rfl (.tmp 48) (.tmp 53) _ rfl w.heap.size 3 (.int .i64 0) 8 Try.underlying30 info_int rfl A8 d c8 o rfl ((hP.drewN (m3 + m4)).alloc _) _ 1 1 [x] rfl (rd_int _ _) (fun _ => rfl) (d + 1) rfl _ rfl (by unfold maxLen; omega) (by omega) (by simp; omega) ?_; intro Ax cx w8 O8 G8 L8)
            | fail)
          have z8 := G8.size
          simp at z8
          have hO8 := ((hO.drewN (m3 + m4)).alloc (.cells #[.int .i64 x] 3)).grown G8 (fun g hg hb => hne g hb hg)
          have hb8 : Below w.heap.size w w8 := bgrown (bbox (below_drewN hbel _) (by simpa using hz) _) G8 (by simp; omega) (fun g hg => (hP.lt hg).1)
          have hz8 := hb8.size
          have OE : OwnL iv (w8.drew.alloc (.cells #[] 3)) w8.heap.size 3 (some ⟨w8.heap.size, 0, none⟩) 0 0 [] := OwnL.lit w8.drew [] (by simp) (Nat.le_refl _)
          have hOd := (hO8.drew.alloc (.cells #[] 3)).rd
          have hql : q ≤ m' + 1 := by omega
          have RT := RdL.take hOd hql
          have hgl8 := (hO8.lt (g := gl) rfl).2
          have HGN : ∀ g, blk (some (⟨w8.heap.size, 0, none⟩ : Addr)) = some g → blk (some (⟨gl, 0 + (q + 1), none⟩ : Addr)) ≠ some g := fun g hg hb => by rw [blk_some] at hg hb; injection hg with hg; injection hb with hb; omega
          have RD := RdL.drop hOd (k := q + 1) (by omega)
          have hqI2 : IntKind.i64.wrap ((q : Int) + 1) = (q : Int) + 1 := IntWalk.i64_in _ (by omega)
          have hq0 : (0 : Int) ≤ (q : Int) := Int.natCast_nonneg _
          have hqc : (q : Int) ≤ (c6 : Int) := by omega
          have hqc2 : (q : Int) + 1 ≤ (m' : Int) + 1 := by omega
          rw [Nat.zero_add] at RD HGN
          rw [Nat.add_sub_add_right] at RD
          have hq1 : (0 : Int) ≤ (q : Int) + 1 := by omega
          by_cases hcap : q + 1 = c6
          · have hcap2 : c6 = q + 1 := hcap.symm
            have hmq : m' - q = 0 := by omega
            have hqq : (q : Int) ≤ (q : Int) + 1 := by omega
            clear RD HGN hcap
            go_wp2_with fail
            go_region_law (first
              | (refine step_appLN (emb := iv) _ rfl (.tmp 55) (.tmp 58) _ rfl w8.heap.size 3 (.int .i64 0) 8 Try.underlying30 info_int rfl _ 0 0 [] rfl OE _ q _ (l.take q) rfl RT (fun _ => rfl) q (by omega) (l.take q) (by simp) (by unfold maxLen; omega) (by omega) (by simp) ?_; intro A5 c5 w5 O5 G5 L5)
              | (refine step_appLN (emb := iv) _ rfl (.tmp 59) (.tmp 63) _ rfl w8.heap.size 3 (.int .i64 0) 8 Try.underlying30 info_int rfl A5 q c5 (l.take q) rfl O5 _ 0 _ (l.drop (q + 1)) rfl (RdL.empty (by rw [List.length_drop, HLL.out]; omega)) (fun _ => rfl) m' (by omega) _ rfl (by unfold maxLen; omega) (by omega) (by have := G5.size; simp at this; omega) ?_; intro A9 c9 w9 O9 G9 L9))
            have z5 := G5.size
            simp at z5
            have z9 := G9.size
            have b9a : Below w8.heap.size w8 w9 := bgrown (bgrown (below_box w8 (.cells #[] 3)).drew G5 (by simp) (fun g hg => by rw [blk_some] at hg; injection hg; omega)) G9 (by omega) (fun g hg => (O5.lt hg).1)
            have hb9 : Below w.heap.size w w9 := bstep hb8 b9a
            have O8' := O8.below b9a (Nat.le_refl _)
            have hne9 : ∀ b, blk A9 = some b → blk Ax ≠ some b := fun b hb e => by have h1 := (O9.lt hb).1; have h2 := (O8.lt e).2; omega
            rw [← List.eraseIdx_eq_take_drop_succ] at O9
            have HXD : Hid (l.getD q 0 = x) := getD_is HX.out
            go_wp2_with fail
            go_roundg m'
            case rel => exact ⟨m', r2, d + 1, l.eraseIdx q, o ++ [x], A9, Ax, c9, cx, by omega, rfl, by go_num, rfl, rfl, rfl, O9.mono hz8, O8', hne9, ⟨by rw [HFE.out]; exact hr2f, by have h9 := HI.out.2; rw [HPE.out, HXD.out] at h9; rw [← h9, List.append_assoc]; rfl⟩, hb9⟩
            case measure => omega
          · have hcap2 : ¬ c6 = q + 1 := fun h => hcap h.symm
            go_wp2_with fail
            go_region_law (first
              | (refine step_appLN (emb := iv) _ rfl (.tmp 55) (.tmp 58) _ rfl w8.heap.size 3 (.int .i64 0) 8 Try.underlying30 info_int rfl _ 0 0 [] rfl OE _ q _ (l.take q) rfl RT (fun _ => rfl) q (by omega) (l.take q) (by simp) (by unfold maxLen; omega) (by omega) (by simp) ?_; intro A5 c5 w5 O5 G5 L5; have RD5 := RD.grown G5 HGN)
              | (refine step_appLN (emb := iv) _ rfl (.tmp 59) (.tmp 63) _ rfl w8.heap.size 3 (.int .i64 0) 8 Try.underlying30 info_int rfl A5 q c5 (l.take q) rfl O5 _ (m' - q) _ (l.drop (q + 1)) rfl RD5 (fun _ => rfl) m' (by omega) _ rfl (by unfold maxLen; omega) (by omega) (by have := G5.size; simp at this; omega) ?_; intro A9 c9 w9 O9 G9 L9))
            have z5 := G5.size
            simp at z5
            have z9 := G9.size
            have b9a : Below w8.heap.size w8 w9 := bgrown (bgrown (below_box w8 (.cells #[] 3)).drew G5 (by simp) (fun g hg => by rw [blk_some] at hg; injection hg; omega)) G9 (by omega) (fun g hg => (O5.lt hg).1)
            have hb9 : Below w.heap.size w w9 := bstep hb8 b9a
            have O8' := O8.below b9a (Nat.le_refl _)
            have hne9 : ∀ b, blk A9 = some b → blk Ax ≠ some b := fun b hb e => by have h1 := (O9.lt hb).1; have h2 := (O8.lt e).2; omega
            rw [← List.eraseIdx_eq_take_drop_succ] at O9
            have HXD : Hid (l.getD q 0 = x) := getD_is HX.out
            go_wp2_with fail
            go_roundg m'
            case rel => exact ⟨m', r2, d + 1, l.eraseIdx q, o ++ [x], A9, Ax, c9, cx, by omega, rfl, by go_num, rfl, rfl, rfl, O9.mono hz8, O8', hne9, ⟨by rw [HFE.out]; exact hr2f, by have h9 := HI.out.2; rw [HPE.out, HXD.out] at h9; rw [← h9, List.append_assoc]; rfl⟩, hb9⟩
            case measure => omega
end Go.Proofs.Ythfjlellaojdmaa
