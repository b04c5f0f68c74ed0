/- StepRun of both. Condition: at most 1048576 settings. -/
import Derived.Test.Ytiahpaakkijejaa3d
namespace Go.Proofs.Ytiahpaakkijejaa
open Go.RowKit
set_option linter.unusedSimpArgs false
set_option linter.unusedVariables false
open Classical in
noncomputable def stepRunL (l : Int) (set : List Bool) : List Int := if 0 < stepsI l ∧ (set.length : Int) = sManyI l then runN l.toNat (stepsI l).toNat set else []
theorem sr_no {l : Int} {set : List Bool} (h : ¬ (0 < stepsI l ∧ (set.length : Int) = sManyI l)) : stepRunL l set = [] := by unfold stepRunL; rw [if_neg h]
theorem sr_yes {n st : Nat} {set : List Bool} (hN : NetOk n st) (hs : stepsI n = st) (hl : (set.length : Int) = sManyI n) : stepRunL n set = runN n st set := by
  obtain ⟨b1, b2, b3, b4⟩ := net_bd hN
  unfold stepRunL
  rw [if_pos ⟨by omega, hl⟩, hs]; simp
theorem runN_small {n st : Nat} {set : List Bool} (hN : NetOk n st) : (runN n st set).length ≤ 1048576 := by have := net_bd hN; rw [runN_len]; omega
theorem sr_len (l : Int) (set : List Bool) : ∀ (h : set.length ≤ 1048576), (stepRunL l set).length ≤ 1048576 := fun h => by
  rcases lines_cases l with ⟨h1, -⟩ | ⟨n, st, rfl, hN, h1, -⟩
  · rw [sr_no (by omega)]; simp
  · by_cases hs : (set.length : Int) = sManyI n
    · rw [sr_yes hN h1 hs]; exact runN_small hN
    · rw [sr_no (fun h => hs h.2)]; simp
theorem run_succ (n : Nat) (set : List Bool) (i s : Nat) : runTo n set i (s + 1) = if set.getD (s * (n / 2) + shuf n (runTo n set i s) / 2) false then swp (shuf n (runTo n set i s)) else shuf n (runTo n set i s) := rfl
theorem idx_lt {n st s l : Nat} (h : NetOk n st) (hs : s < st) (hl : l < n) : s * (n / 2) + l / 2 < n / 2 * st := by
  rcases h with ⟨rfl, rfl⟩ | ⟨rfl, rfl⟩ | ⟨rfl, rfl⟩ <;> omega
theorem quo_two (n : Nat) : ((n : Int) / 2) = ((n / 2 : Nat) : Int) := by omega
theorem run_yes {n : Nat} {set : List Bool} {i s : Nat} (h : set[s * (n / 2) + shuf n (runTo n set i s) / 2]? = some true) : runTo n set i (s + 1) = swp (shuf n (runTo n set i s)) := by
  rw [run_succ, List.getD_eq_getElem?_getD, h]; rfl
theorem run_no {n : Nat} {set : List Bool} {i s : Nat} (h : set[s * (n / 2) + shuf n (runTo n set i s) / 2]? = some false) : runTo n set i (s + 1) = shuf n (runTo n set i s) := by
  rw [run_succ, List.getD_eq_getElem?_getD, h]; rfl
theorem runN_take {n st k : Nat} {set : List Bool} (h : k < n) : (runN n st set).take (k + 1) = (runN n st set).take k ++ [(runTo n set k st : Int)] := take_snoc' (runN_at h)
theorem half_mul {n st s : Nat} (h : NetOk n st) (hs : s < st) : (s : Int) * ((n / 2 : Nat) : Int) = ((s * (n / 2) : Nat) : Int) ∧ s * (n / 2) ≤ 8 ∧ s * n / 2 = s * (n / 2) ∧ s * n ≤ 16 := by
  refine ⟨by simp, ?_⟩
  rcases h with ⟨rfl, rfl⟩ | ⟨rfl, rfl⟩ | ⟨rfl, rfl⟩ <;> omega
set_option maxHeartbeats 2000000 in
theorem impl_StepRun (l : Int) (A : Option Addr) (m c : Nat) (set : List Bool) (w : World) (hx : RdL bv w A m set) (hm : m ≤ 1048576) :
    Calls Try.prog 21 #[.int .i64 l, .slice A m c] w (RetO iv 3 (stepRunL l set) w) := by
  have HL := hx.len
  rcases lines_cases l with ⟨h1, -⟩ | ⟨n, st, rfl, hN, h1, -, h3⟩
  · have HE : Hid (stepRunL l set = []) := sr_no (by omega)
    have H1 := Lib.hid h1; clear h1
    go_enter Try.func21, Try.ntmps21
    go_wp2_with (go_at_call 47; refine (impl_stepsOf l _).mono ?_; rintro e w1 ⟨rfl, m1, rfl⟩; rw [H1.out])
    go_ret
    exact ⟨_, _, _, rfl, by rw [HE.out]; exact OwnL.nil, below_drewN (Below.refl _ _) _⟩
  · obtain ⟨b1, b2, b3, b4⟩ := net_bd hN
    have H1 := Lib.hid h1
    have HN := Lib.hid hN
    obtain ⟨M, HM⟩ : ∃ M, Hid (n / 2 * st = M) := ⟨_, rfl⟩
    rw [HM.out] at h3
    have H3 := Lib.hid h3
    by_cases hme : m = M
    · have HE : Hid (stepRunL n set = runN n st set) := sr_yes hN h1 (by rw [h3, HL.out, hme])
      clear h1 h3 hN
      obtain ⟨h, hh⟩ : ∃ h, n / 2 = h := ⟨_, rfl⟩
      have hmk := run_make_row' (P := Try.prog) 25 3 (.int .i64 0) 8 Try.underlying25 info_int rfl .i64 .i64 n (by omega) (by omega)
      have hne : ((m : Int) != (M : Int)) = false := by rw [hme]; simp
      have hq2 : (n : Int) / 2 = (h : Int) := by omega
      have HH := Lib.hid hh
      clear hh
      have hst : decide ((st : Int) < 0) = false := decide_eq_false (by omega)
      go_enter Try.func21, Try.ntmps21
      go_wp2_with (first
        | (go_at_call 47; refine (impl_stepsOf n _).mono ?_; rintro e w1 ⟨rfl, m1, rfl⟩; rw [H1.out])
        | (go_at_call 53; refine (impl_StepMany n _).mono ?_; rintro e w2 ⟨rfl, m2, rfl⟩; rw [H3.out]))
      clear hmk
      go_loopg [9, 28] n (fun g s9 s28 wr => ∃ k : Nat, k ≤ n ∧ g = n - k ∧ s28 = .int .i64 k ∧ OwnL iv wr w.heap.size 3 (some ⟨w.heap.size, 0, none⟩) n n ((runN n st set).take k ++ List.replicate (n - k) 0) ∧ Below w.heap.size w wr)
      case atStart => exact ⟨0, Nat.zero_le _, rfl, rfl, OwnL.made (w.drewN (m1 + m2)) 0 n (by unfold maxLen; omega) _ (Nat.le_refl _), (below_drewN (Below.refl _ _) _).alloc (Nat.le_refl _) _⟩
      case round =>
        obtain ⟨k, hk, rfl, rfl, hown, hbel⟩ := hrel
        have hsz := hbel.size
        by_cases hlt : k < n
        · obtain ⟨g', y, hA, hB, hg', HY, gc, gf⟩ := hown.at hlt
          injection hA with hA; injection hA with hA; subst hA
          have hxw := hx.below hbel (Nat.le_refl _)
          obtain ⟨wo, hwo⟩ : ∃ wo : World, wo = wr := ⟨_, rfl⟩
          subst hwo
          go_wp2
          go_loopg [9, 33] st (fun g s9 s33 wr => ∃ s q : Nat, s ≤ st ∧ g = st - s ∧ s33 = .int .i64 s ∧ s9 = .int .i64 (runTo n set k s) ∧ wr = wo.drewN q)
          case atStart => exact ⟨0, 0, Nat.zero_le _, rfl, rfl, rfl, rfl⟩
          case round =>
            obtain ⟨s, q, hs, rfl, rfl, rfl, rfl⟩ := hrel
            by_cases hsl : s < st
            · obtain ⟨V, HV⟩ : ∃ V, Hid (runTo n set k s = V) := ⟨_, rfl⟩
              have hV : V < n := by rw [← HV.out]; exact runTo_lt HN.out hlt s
              rw [HV.out]
              obtain ⟨U, HU⟩ : ∃ U, Hid (shuf n V = U) := ⟨_, rfl⟩
              have hU : U < n := by rw [← HU.out]; exact shuf_lt HN.out hV
              have hidx := idx_lt HN.out hsl hU
              rw [HM.out] at hidx
              obtain ⟨hmul, hmul8, -⟩ := half_mul HN.out hsl
              rw [HH.out] at hmul hmul8 hidx
              have hu2 := quo_two U
              obtain ⟨X, hXe⟩ : ∃ X : Nat, s * h = X := ⟨_, rfl⟩
              obtain ⟨Z, hZe⟩ : ∃ Z : Nat, U / 2 = Z := ⟨_, rfl⟩
              have HIX : Hid (s * (n / 2) + U / 2 = X + Z) := by show _ = _; rw [HH.out, hXe, hZe]
              rw [hXe, hZe] at hidx
              rw [hXe] at hmul hmul8
              rw [hZe] at hu2
              clear hXe hZe
              obtain ⟨b, off, t, rfl, HT, gt⟩ := hxw.at (k := X + Z) (by omega)
              cases t with
              | true =>
                have HR : Hid (runTo n set k (s + 1) = swp U) := by
                  show _ = _
                  rw [run_yes (by rw [HV.out, HU.out, HIX.out]; exact HT.out), HV.out, HU.out]
                have hxor := i64_xor1 U (by omega)
                go_wp2_with (go_at_call 54; refine (impl_shuffled n st V _ HN.out hV).mono ?_; rintro e w3 ⟨rfl, m3, rfl⟩; rw [HU.out])
                go_roundg (st - (s + 1))
                case rel => exact ⟨s + 1, _, by omega, rfl, by go_num, by rw [HR.out], rfl⟩
                case measure => omega
              | false =>
                have HR : Hid (runTo n set k (s + 1) = U) := by
                  show _ = _
                  rw [run_no (by rw [HV.out, HU.out, HIX.out]; exact HT.out), HV.out, HU.out]
                go_wp2_with (go_at_call 54; refine (impl_shuffled n st V _ HN.out hV).mono ?_; rintro e w3 ⟨rfl, m3, rfl⟩; rw [HU.out])
                go_roundg (st - (s + 1))
                case rel => exact ⟨s + 1, _, by omega, rfl, by go_num, by rw [HR.out], rfl⟩
                case measure => omega
            · obtain rfl : s = st := by omega
              go_wp2
              go_roundg (n - (k + 1))
              case rel => exact ⟨k + 1, by omega, rfl, by go_num, by rw [← set_fill (runN_len n s set) hlt (runN_at hlt)]; exact OwnL.set (hown.drewN q) k (runTo n set k s : Int), (below_drewN hbel q).setCell (Nat.le_refl _) _⟩
              case measure => omega
        · go_wp2
          go_ret
          obtain rfl : k = n := by omega
          rw [Nat.sub_self, List.take_of_length_le (by rw [runN_len]; exact Nat.le_refl _)] at hown
          exact ⟨_, _, _, rfl, by rw [HE.out]; simpa using hown, hbel⟩
    · have HE : Hid (stepRunL n set = []) := sr_no (fun h => hme (by have := h.2; rw [h3, HL.out] at this; omega))
      have hne : ((m : Int) != (M : Int)) = true := by simp; omega
      clear h1 h3 hN
      go_enter Try.func21, Try.ntmps21
      go_wp2_with (first
        | (go_at_call 47; refine (impl_stepsOf n _).mono ?_; rintro e w1 ⟨rfl, m1, rfl⟩; rw [H1.out])
        | (go_at_call 53; refine (impl_StepMany n _).mono ?_; rintro e w2 ⟨rfl, m2, rfl⟩; rw [H3.out]))
      go_ret
      exact ⟨_, _, _, rfl, by rw [HE.out]; exact OwnL.nil, below_drewN (Below.refl _ _) _⟩
theorem shuf_mod {n st V : Nat} (h : NetOk n st) (hV : V < n) : (2 * (V : Int)) % n + (2 * (V : Int)) / n = (shuf n V : Int) := by
  unfold shuf
  rcases h with ⟨rfl, rfl⟩ | ⟨rfl, rfl⟩ | ⟨rfl, rfl⟩ <;> split <;> omega
set_option maxHeartbeats 2000000 in
theorem spec_StepRun (l : Int) (A : Option Addr) (m c : Nat) (set : List Bool) (w : World) (hx : RdL bv w A m set) (hm : m ≤ 1048576) :
    Calls Try.prog 19 #[.int .i64 l, .slice A m c] w (RetO iv 3 (stepRunL l set) w) := by
  have HL := hx.len
  have O0 : OwnL iv (w.alloc (.cells #[] 3)) w.heap.size 3 (some ⟨w.heap.size, 0, none⟩) 0 0 [] := OwnL.lit w [] (by simp) (Nat.le_refl _)
  have B0 := below_box w (.cells #[] 3)
  rcases lines_cases l with ⟨h0, h1, -⟩ | ⟨n, st, rfl, hN, h1, h2, h3⟩
  · have HE : Hid (stepRunL l set = []) := sr_no (by omega)
    have H1 := Lib.hid h1; clear h0 h1
    go_enter Try.func19, Try.ntmps19
    go_wp2_with (go_at_call 48; refine (spec_l3Lines l _).mono ?_; rintro e w1 ⟨rfl, m1, rfl⟩; rw [H1.out])
    go_ret
    exact ⟨_, _, _, rfl, by rw [HE.out]; exact OwnL.lit (w.drewN m1) [] (by simp) (Nat.le_refl _), (below_drewN (Below.refl _ _) m1).alloc (Nat.le_refl _) _⟩
  · obtain ⟨b1, b2, b3, b4⟩ := net_bd hN
    have H2 := Lib.hid h2
    have HN := Lib.hid hN
    obtain ⟨M, HM⟩ : ∃ M, Hid (n / 2 * st = M) := ⟨_, rfl⟩
    rw [HM.out] at h3
    have H3 := Lib.hid h3
    by_cases hme : m = M
    · have HE : Hid (stepRunL n set = runN n st set) := sr_yes hN h1 (by rw [h3, HL.out, hme])
      clear h1 h2 h3 hN
      have hne : ((m : Int) != (M : Int)) = false := by rw [hme]; simp
      go_enter Try.func19, Try.ntmps19
      go_wp2_with (first
        | (go_at_call 48; refine (spec_l3Lines n _).mono ?_; rintro e w1 ⟨rfl, m1, rfl⟩; rw [H2.out])
        | (go_at_call 52; refine (spec_StepMany n _).mono ?_; rintro e w2 ⟨rfl, m2, rfl⟩; rw [H3.out]))
      have O1 : OwnL iv ((w.drewN (m1 + m2)).alloc (.cells #[] 3)) w.heap.size 3 (some ⟨w.heap.size, 0, none⟩) 0 0 [] := OwnL.lit (w.drewN (m1 + m2)) [] (by simp) (Nat.le_refl _)
      have B1 : Below w.heap.size w ((w.drewN (m1 + m2)).alloc (.cells #[] 3)) := (below_drewN (Below.refl _ _) _).alloc (Nat.le_refl _) _
      go_loopg [5, 6, 7, 8] n (fun g s5 s6 s7 s8 wr => ∃ (k cc : Nat) (A' : Option Addr), k ≤ n ∧ g = n - k ∧ s6 = .int .i64 k ∧ s5 = .slice A' k cc ∧ OwnL iv wr w.heap.size 3 A' k cc ((runN n st set).take k) ∧ Below w.heap.size w wr)
      case atStart => exact ⟨0, 0, _, Nat.zero_le _, rfl, rfl, rfl, O1, B1⟩
      case round =>
        obtain ⟨k, cc, A', hk, rfl, rfl, rfl, hown, hbel⟩ := hrel
        have hsz := hbel.size
        by_cases hlt : k < n
        · have hxw := hx.below hbel (Nat.le_refl _)
          obtain ⟨wo, hwo⟩ : ∃ wo : World, wo = wr := ⟨_, rfl⟩
          subst hwo
          go_wp2
          go_loopg [7, 8] st (fun g s7 s8 wr => ∃ s q : Nat, s ≤ st ∧ g = st - s ∧ s8 = .int .i64 s ∧ s7 = .int .i64 (runTo n set k s) ∧ wr = wo.drewN q)
          case atStart => exact ⟨0, 0, Nat.zero_le _, rfl, rfl, rfl, rfl⟩
          case round =>
            obtain ⟨s, q, hs, rfl, rfl, rfl, rfl⟩ := hrel
            by_cases hsl : s < st
            · obtain ⟨V, HV⟩ : ∃ V, Hid (runTo n set k s = V) := ⟨_, rfl⟩
              have hV : V < n := by rw [← HV.out]; exact runTo_lt HN.out hlt s
              rw [HV.out]
              obtain ⟨U, HU⟩ : ∃ U, Hid (shuf n V = U) := ⟨_, rfl⟩
              have hU : U < n := by rw [← HU.out]; exact shuf_lt HN.out hV
              have hsm := shuf_mod HN.out hV
              rw [HU.out] at hsm
              have HSM := Lib.hid hsm; clear hsm
              have hidx := idx_lt HN.out hsl hU
              rw [HM.out] at hidx
              obtain ⟨-, hmul8, hmul2, hmul16⟩ := half_mul HN.out hsl
              obtain ⟨X, hXe⟩ : ∃ X : Nat, s * (n / 2) = X := ⟨_, rfl⟩
              obtain ⟨Z, hZe⟩ : ∃ Z : Nat, U / 2 = Z := ⟨_, rfl⟩
              obtain ⟨Y, hYe⟩ : ∃ Y : Nat, s * n = Y := ⟨_, rfl⟩
              have HIX : Hid (s * (n / 2) + U / 2 = X + Z) := by show _ = _; rw [hXe, hZe]
              have hyi : (s : Int) * (n : Int) = (Y : Int) := by rw [← hYe]; simp
              rw [hXe, hZe] at hidx
              rw [hYe, hXe] at hmul2
              rw [hYe] at hmul16
              have hu2 : (U : Int) / 2 = (Z : Int) := by omega
              have hy2 : (Y : Int) / 2 = (X : Int) := by omega
              rw [hXe] at hmul8
              clear hXe hZe hYe hmul2
              obtain ⟨b, off, t, rfl, HT, gt⟩ := hxw.at (k := X + Z) (by omega)
              have q1 : (0 : Int) ≤ 2 * (V : Int) % (n : Int) := Int.emod_nonneg _ (by omega)
              have q2 : 2 * (V : Int) % (n : Int) < (n : Int) := Int.emod_lt_of_pos _ (by omega)
              have q3 : (0 : Int) ≤ 2 * (V : Int) / (n : Int) := Int.ediv_nonneg (by omega) (by omega)
              have q4 : 2 * (V : Int) / (n : Int) ≤ 100 := by have := Int.ediv_le_self (a := 2 * (V : Int)) (n : Int) (by omega); omega
              have q5 : ¬ (n : Int) = 0 := by omega
              cases t with
              | true =>
                have HR : Hid (runTo n set k (s + 1) = swp U) := by
                  show _ = _
                  rw [run_yes (by rw [HV.out, HU.out, HIX.out]; exact HT.out), HV.out, HU.out]
                have hsw : (Z : Int) * 2 + 1 - (U : Int) % 2 = ((swp U : Nat) : Int) := by unfold swp; omega
                go_wp2_with (go_at_call 50; refine (spec_l3Log n st _ HN.out).mono ?_; rintro e w3 ⟨rfl, m3, rfl⟩)
                have v1 : IntKind.i64.wrap (2 * (V : Int)) = 2 * (V : Int) := IntWalk.i64_in _ (by omega)
                have v2 : IntKind.i64.wrap ((2 * (V : Int)).tdiv (n : Int)) = 2 * (V : Int) / n := IntWalk.i64_quo _ _ (by omega)
                have v3 : (2 * (V : Int)).tmod (n : Int) = 2 * (V : Int) % n := Int.tmod_eq_emod_of_nonneg (by omega)
                have v4 : IntKind.i64.wrap (2 * (V : Int) % n + 2 * (V : Int) / n) = (U : Int) := by rw [HSM.out]; exact IntWalk.i64_in _ (by omega)
                go_quiet (fail)
                clear v1 v2 v3 v4
                go_wp2
                clear q1 q2 q3 q4
                go_roundg (st - (s + 1))
                case rel => exact ⟨s + 1, _, by omega, rfl, by go_num, by rw [HR.out], rfl⟩
                case measure => omega
              | false =>
                have HR : Hid (runTo n set k (s + 1) = U) := by
                  show _ = _
                  rw [run_no (by rw [HV.out, HU.out, HIX.out]; exact HT.out), HV.out, HU.out]
                go_wp2_with (go_at_call 50; refine (spec_l3Log n st _ HN.out).mono ?_; rintro e w3 ⟨rfl, m3, rfl⟩)
                have v1 : IntKind.i64.wrap (2 * (V : Int)) = 2 * (V : Int) := IntWalk.i64_in _ (by omega)
                have v2 : IntKind.i64.wrap ((2 * (V : Int)).tdiv (n : Int)) = 2 * (V : Int) / n := IntWalk.i64_quo _ _ (by omega)
                have v3 : (2 * (V : Int)).tmod (n : Int) = 2 * (V : Int) % n := Int.tmod_eq_emod_of_nonneg (by omega)
                have v4 : IntKind.i64.wrap (2 * (V : Int) % n + 2 * (V : Int) / n) = (U : Int) := by rw [HSM.out]; exact IntWalk.i64_in _ (by omega)
                go_quiet (fail)
                clear v1 v2 v3 v4
                go_wp2
                clear q1 q2 q3 q4
                go_roundg (st - (s + 1))
                case rel => exact ⟨s + 1, _, by omega, rfl, by go_num, by rw [HR.out], rfl⟩
                case measure => omega
            · obtain rfl : s = st := by omega
              have HRT := Lib.hid (runN_take (st := s) (set := set) hlt)
              go_wp2_with (first
                | (go_at_call 50; refine (spec_l3Log n s _ HN.out).mono ?_; rintro e w3 ⟨rfl, m3, rfl⟩)
                | (at_builtin; refine wpList_appL _ rfl (.tmp 59) (.tmp 61) _ rfl w.heap.size 3 (.int .i64 0) 8 Try.underlying25 info_int rfl A' k cc _ rfl ((OwnL.drewN hown _).alloc (.cells #[.int .i64 (runTo n set k s : Int)] 3)) _ 1 1 [(runTo n set k s : Int)] rfl (RdL.one _ _ _) (fun _ => rfl) (by unfold maxLen; omega) (by omega) (by simp; omega) ?_; intro A5 c5 w5 O5 G5 L5))
              have B5 : Below w.heap.size w w5 := bgrown (bbox (below_drewN hbel (q + m3)) hsz (.cells #[.int .i64 (runTo n set k s : Int)] 3)) G5 (by simp; omega) (fun g hg => (hown.lt hg).1)
              go_roundg (n - (k + 1))
              case rel => exact ⟨k + 1, c5, A5, by omega, rfl, by go_num, rfl, by rw [HRT.out]; exact O5, B5⟩
              case measure => omega
        · go_wp2
          go_ret
          obtain rfl : k = n := by omega
          rw [List.take_of_length_le (by rw [runN_len]; exact Nat.le_refl _)] at hown
          exact ⟨_, _, _, rfl, by rw [HE.out]; exact hown, hbel⟩
    · have HE : Hid (stepRunL n set = []) := sr_no (fun h => hme (by have := h.2; rw [h3, HL.out] at this; omega))
      have hne : ((m : Int) != (M : Int)) = true := by simp; omega
      clear h1 h2 h3 hN
      go_enter Try.func19, Try.ntmps19
      go_wp2_with (first
        | (go_at_call 48; refine (spec_l3Lines n _).mono ?_; rintro e w1 ⟨rfl, m1, rfl⟩; rw [H2.out])
        | (go_at_call 52; refine (spec_StepMany n _).mono ?_; rintro e w2 ⟨rfl, m2, rfl⟩; rw [H3.out]))
      go_ret
      exact ⟨_, _, _, rfl, by rw [HE.out]; exact OwnL.lit (w.drewN (m1 + m2)) [] (by simp) (Nat.le_refl _), (below_drewN (Below.refl _ _) _).alloc (Nat.le_refl _) _⟩
end Go.Proofs.Ytiahpaakkijejaa
