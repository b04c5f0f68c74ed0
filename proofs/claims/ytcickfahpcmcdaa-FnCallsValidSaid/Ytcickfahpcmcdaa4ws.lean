/- CallsValid of the program and of the reference answer whether the calls are possible at the same time. Condition: at most 1048576 calls. -/
import Derived.Test.Ytcickfahpcmcdaa4w
namespace Go.Proofs.Ytcickfahpcmcdaa
open Go.RowKit
set_option linter.unusedSimpArgs false
set_option linter.unusedVariables false
theorem l1_is {n lo hi : Int} {b : Bool} {w : World} (h : inB n lo hi = b) : Calls Try.prog 57 #[.int .i64 n, .int .i64 lo, .int .i64 hi] w fun e w' => e = .returned (.bool b) ∧ ∃ m, w' = w.drewN m := by
  rw [← h]; exact l1In_any n lo hi w
set_option maxRecDepth 100000 in
set_option maxHeartbeats 2000000 in
theorem spec_CallsValid (o e m : Int) (A : Option Addr) (n c : Nat) (xs : List Cl) (w : World) (hx : RdC w A n xs) (hc : n ≤ c) (hn : n ≤ 1048576) :
    Calls Try.prog 17 #[shv o e m, .slice A n c] w (RetM (CallsOk o e m xs) w) := by
  have HL := hx.len
  by_cases hs : ShapeOk o e m
  · obtain ⟨hs1, hs2, hs3, hs4, hs5, hs6⟩ := id hs
    obtain ⟨hp1, hp2⟩ := prod_bd hs
    have HS := Lib.hid hs; clear hs
    go_enter Try.func17, Try.ntmps17
    go_wp2_with fail
    refine (spec_ShapeValid o e m _).mono ?_
    rintro r w1 ⟨rfl, b1⟩
    rw [shape_ok.2 HS.out]
    have S1 := (ShAt.new w o e m).below b1
    have B1 := bstep (below_box w _) b1
    clear b1
    go_wp2
    go_loopg [5] n (fun g i wr => ∃ k : Nat, k ≤ n ∧ g = n - k ∧ i = .int .i64 k ∧ Hid (ValidTo o e m (xs.take k)) ∧ Below w1.heap.size w1 wr)
    case atStart => exact ⟨0, Nat.zero_le _, rfl, rfl, ⟨by simp, by simp⟩, Below.refl _ _⟩
    case round =>
      obtain ⟨k, hk, rfl, rfl, HV, hbel⟩ := hrel
      obtain ⟨wo, rfl⟩ : ∃ wo : World, wo = wr := ⟨_, rfl⟩
      have BO := bstep B1 hbel
      have SO := S1.below hbel
      by_cases hlt : k < n
      · obtain ⟨b, off, x, rfl, HX, g0, g1, g2⟩ := RdC.at (hx.below BO (Nat.le_refl _)) hlt
        have HNO : Hid (¬ OkC o e m x → ¬ CallsOk o e m xs) := not_calls_one HX.out
        have C2 := ClAt.new wo x
        have S2 := SO.alloc (.cells #[.int .i64 x.i, .int .i64 x.o, .int .i64 x.v] 36)
        have BW2 := bstep hbel (below_box wo (.cells #[.int .i64 x.i, .int .i64 x.o, .int .i64 x.v] 36))
        have B2 := bstep BO (below_box wo (.cells #[.int .i64 x.i, .int .i64 x.o, .int .i64 x.v] 36))
        have hz0 := SO.lt
        obtain ⟨s0, s1, s2, -⟩ := S2.cells
        obtain ⟨k0, k1, k2, -⟩ := C2.cells
        have HI2 : Hid (inB x.i 0 (o * e - 1) = lineB o e x.i) := by show _ = _; rw [Bool.eq_iff_iff]; simp [inB, lineB]; omega
        have HO2 : Hid (inB x.o 0 (o * e - 1) = lineB o e x.o) := by show _ = _; rw [Bool.eq_iff_iff]; simp [inB, lineB]; omega
        have HWR : Hid (IntKind.i64.wrap (o * e - 1) = o * e - 1) := IntWalk.i64_in _ (by omega)
        have HWM : Hid (IntKind.i64.wrap (m - 1) = m - 1) := IntWalk.i64_in _ (by omega)
        cases hi : lineB o e x.i with
        | false =>
          have HI := Lib.hid hi; clear hi
          have HI3 : Hid (inB x.i 0 (o * e - 1) = false) := HI2.out.trans HI.out
          go_wp2
          have hwr := HWR.out
          have hwm := HWM.out
          have hsc : ∀ p : Bw (wo.alloc (.cells #[.int .i64 x.i, .int .i64 x.o, .int .i64 x.v] 36)), p.w.cell? ⟨w.heap.size, 0, none⟩ = some (.int .i64 o) ∧ p.w.cell? ⟨w.heap.size, 1, none⟩ = some (.int .i64 e) ∧ p.w.cell? ⟨w.heap.size, 2, none⟩ = some (.int .i64 m) := fun p => ⟨(S2.below p.h).cells.1, (S2.below p.h).cells.2.1, (S2.below p.h).cells.2.2.1⟩
          have hcc : ∀ p : Bw (wo.alloc (.cells #[.int .i64 x.i, .int .i64 x.o, .int .i64 x.v] 36)), p.w.cell? ⟨wo.heap.size, 0, none⟩ = some (.int .i64 x.i) ∧ p.w.cell? ⟨wo.heap.size, 1, none⟩ = some (.int .i64 x.o) ∧ p.w.cell? ⟨wo.heap.size, 2, none⟩ = some (.int .i64 x.v) := fun p => ⟨(C2.below p.h).cells.1, (C2.below p.h).cells.2.1, (C2.below p.h).cells.2.2.1⟩
          refine wp_region_bw (by kernel_rfl) (by kernel_rfl) ?_
          repeat (go_big_quiet_step (first
            | (go_at_call 58; exact bw_of (spec_l4Lines o e m _ (by omega) (by omega)))
            | (go_at_call 57; (first | (exact bw_quiet (l1_is HI3.out))))))
          refine wpQuiet_nil ?_
          intro w5 hw'
          have b5 := bw_out hw'
          clear hw'
          have BW5 := bstep BW2 b5
          clear hwr hwm hsc hcc
          all_goals
            go_wp2
            go_ret
            exact RetM.no (HNO.out (fun h => by have := lineB_iff.2 h.1; rw [HI.out] at this; cases this)) (bstep B1 BW5)
        | true =>
          have HI := Lib.hid (lineB_iff.1 hi)
          have HI3 : Hid (inB x.i 0 (o * e - 1) = true) := HI2.out.trans hi
          clear hi
          cases ho : lineB o e x.o with
          | false =>
            have HO := Lib.hid ho; clear ho
            have HO3 : Hid (inB x.o 0 (o * e - 1) = false) := HO2.out.trans HO.out
            go_wp2
            have hwr := HWR.out
            have hwm := HWM.out
            have hsc : ∀ p : Bw (wo.alloc (.cells #[.int .i64 x.i, .int .i64 x.o, .int .i64 x.v] 36)), p.w.cell? ⟨w.heap.size, 0, none⟩ = some (.int .i64 o) ∧ p.w.cell? ⟨w.heap.size, 1, none⟩ = some (.int .i64 e) ∧ p.w.cell? ⟨w.heap.size, 2, none⟩ = some (.int .i64 m) := fun p => ⟨(S2.below p.h).cells.1, (S2.below p.h).cells.2.1, (S2.below p.h).cells.2.2.1⟩
            have hcc : ∀ p : Bw (wo.alloc (.cells #[.int .i64 x.i, .int .i64 x.o, .int .i64 x.v] 36)), p.w.cell? ⟨wo.heap.size, 0, none⟩ = some (.int .i64 x.i) ∧ p.w.cell? ⟨wo.heap.size, 1, none⟩ = some (.int .i64 x.o) ∧ p.w.cell? ⟨wo.heap.size, 2, none⟩ = some (.int .i64 x.v) := fun p => ⟨(C2.below p.h).cells.1, (C2.below p.h).cells.2.1, (C2.below p.h).cells.2.2.1⟩
            refine wp_region_bw (by kernel_rfl) (by kernel_rfl) ?_
            repeat (go_big_quiet_step (first
              | (go_at_call 58; exact bw_of (spec_l4Lines o e m _ (by omega) (by omega)))
              | (go_at_call 57; (first | (exact bw_quiet (l1_is HI3.out)) | (exact bw_quiet (l1_is HO3.out))))))
            refine wpQuiet_nil ?_
            intro w5 hw'
            have b5 := bw_out hw'
            clear hw'
            have BW5 := bstep BW2 b5
            clear hwr hwm hsc hcc
            all_goals
              go_wp2
              go_ret
              exact RetM.no (HNO.out (fun h => by have := lineB_iff.2 h.2.1; rw [HO.out] at this; cases this)) (bstep B1 BW5)
          | true =>
            have HO := Lib.hid (lineB_iff.1 ho)
            have HO3 : Hid (inB x.o 0 (o * e - 1) = true) := HO2.out.trans ho
            clear ho
            cases hv : inB x.v 0 (m - 1) with
            | false =>
              have HVV := Lib.hid hv; clear hv
              go_wp2
              have hwr := HWR.out
              have hwm := HWM.out
              have hsc : ∀ p : Bw (wo.alloc (.cells #[.int .i64 x.i, .int .i64 x.o, .int .i64 x.v] 36)), p.w.cell? ⟨w.heap.size, 0, none⟩ = some (.int .i64 o) ∧ p.w.cell? ⟨w.heap.size, 1, none⟩ = some (.int .i64 e) ∧ p.w.cell? ⟨w.heap.size, 2, none⟩ = some (.int .i64 m) := fun p => ⟨(S2.below p.h).cells.1, (S2.below p.h).cells.2.1, (S2.below p.h).cells.2.2.1⟩
              have hcc : ∀ p : Bw (wo.alloc (.cells #[.int .i64 x.i, .int .i64 x.o, .int .i64 x.v] 36)), p.w.cell? ⟨wo.heap.size, 0, none⟩ = some (.int .i64 x.i) ∧ p.w.cell? ⟨wo.heap.size, 1, none⟩ = some (.int .i64 x.o) ∧ p.w.cell? ⟨wo.heap.size, 2, none⟩ = some (.int .i64 x.v) := fun p => ⟨(C2.below p.h).cells.1, (C2.below p.h).cells.2.1, (C2.below p.h).cells.2.2.1⟩
              refine wp_region_bw (by kernel_rfl) (by kernel_rfl) ?_
              repeat (go_big_quiet_step (first
                | (go_at_call 58; exact bw_of (spec_l4Lines o e m _ (by omega) (by omega)))
                | (go_at_call 57; (first | (exact bw_quiet (l1_is HI3.out)) | (exact bw_quiet (l1_is HO3.out)) | (exact bw_quiet (l1_is HVV.out))))))
              refine wpQuiet_nil ?_
              intro w5 hw'
              have b5 := bw_out hw'
              clear hw'
              have BW5 := bstep BW2 b5
              clear hwr hwm hsc hcc
              all_goals
                go_wp2
                go_ret
                exact RetM.no (HNO.out (fun h => by have h1 := HVV.out; have h2 := h.2.2; simp [inB] at h1; omega)) (bstep B1 BW5)
            | true =>
                have HVV := Lib.hid hv; clear hv
                have HK : Hid (OkC o e m x) := ⟨HI.out, HO.out, by have h1 := HVV.out; simp [inB] at h1; omega, by have h1 := HVV.out; simp [inB] at h1; omega⟩
                obtain ⟨hxi, hxi2⟩ := HI.out
                obtain ⟨hxo, hxo2⟩ := HO.out
                go_wp2
                have hwr := HWR.out
                have hwm := HWM.out
                have hsc : ∀ p : Bw (wo.alloc (.cells #[.int .i64 x.i, .int .i64 x.o, .int .i64 x.v] 36)), p.w.cell? ⟨w.heap.size, 0, none⟩ = some (.int .i64 o) ∧ p.w.cell? ⟨w.heap.size, 1, none⟩ = some (.int .i64 e) ∧ p.w.cell? ⟨w.heap.size, 2, none⟩ = some (.int .i64 m) := fun p => ⟨(S2.below p.h).cells.1, (S2.below p.h).cells.2.1, (S2.below p.h).cells.2.2.1⟩
                have hcc : ∀ p : Bw (wo.alloc (.cells #[.int .i64 x.i, .int .i64 x.o, .int .i64 x.v] 36)), p.w.cell? ⟨wo.heap.size, 0, none⟩ = some (.int .i64 x.i) ∧ p.w.cell? ⟨wo.heap.size, 1, none⟩ = some (.int .i64 x.o) ∧ p.w.cell? ⟨wo.heap.size, 2, none⟩ = some (.int .i64 x.v) := fun p => ⟨(C2.below p.h).cells.1, (C2.below p.h).cells.2.1, (C2.below p.h).cells.2.2.1⟩
                refine wp_region_bw (by kernel_rfl) (by kernel_rfl) ?_
                repeat (go_big_quiet_step (first
                  | (go_at_call 58; exact bw_of (spec_l4Lines o e m _ (by omega) (by omega)))
                  | (go_at_call 57; (first | (exact bw_quiet (l1_is HI3.out)) | (exact bw_quiet (l1_is HO3.out)) | (exact bw_quiet (l1_is HVV.out))))))
                refine wpQuiet_nil ?_
                intro w5 hw'
                have b5 := bw_out hw'
                clear hw'
                have BW5 := bstep BW2 b5
                clear hwr hwm hsc hcc
                go_wp2
                have S5 := S2.below b5
                have C5 := C2.below b5
                have B5 := bstep B1 BW5
                go_loopg [7] k (fun g i wi => ∃ j : Nat, j ≤ k ∧ g = k - j ∧ i = .int .i64 j ∧ Hid (∀ d ∈ xs.take j, Compat e d x) ∧ Below w5.heap.size w5 wi)
                case atStart => exact ⟨0, Nat.zero_le _, rfl, rfl, (by show ∀ d ∈ xs.take 0, Compat e d x; simp), Below.refl _ _⟩
                case round =>
                  obtain ⟨j, hj, rfl, rfl, HP, hbi⟩ := hrel
                  have BI := bstep B5 hbi
                  have BW' := bstep BW5 hbi
                  have SI := S5.below hbi
                  have CI := C5.below hbi
                  by_cases hjk : j < k
                  · have hjn : j < n := by omega
                    obtain ⟨b', off', y, hA, HY, g0', g1', g2'⟩ := RdC.at (hx.below BI (Nat.le_refl _)) (k := j) (by omega)
                    injection hA with hA; injection hA with hA1 hA2; subst hA1 hA2
                    have HN2 : Hid (¬ Compat e y x → ¬ CallsOk o e m xs) := not_calls_two hjk HX.out HY.out
                    have HYK : Hid (OkC o e m y) := HV.out.1 y (at_mem_take hjk HY.out)
                    obtain ⟨hyi, hyi2⟩ := HYK.out.1
                    obtain ⟨hyo, hyo2⟩ := HYK.out.2.1
                    have HQ1 := Lib.hid (IntWalk.i64_quo y.i e ⟨hyi, by omega, hs3⟩)
                    have HQ2 := Lib.hid (IntWalk.i64_quo x.i e ⟨hxi, by omega, hs3⟩)
                    have HQ3 := Lib.hid (IntWalk.i64_quo y.o e ⟨hyo, by omega, hs3⟩)
                    have HQ4 := Lib.hid (IntWalk.i64_quo x.o e ⟨hxo, by omega, hs3⟩)
                    have HE0 : Hid (¬ e = 0) := by show ¬ e = 0; omega
                    have BJ := bstep BI (below_box wr (.cells #[.int .i64 y.i, .int .i64 y.o, .int .i64 y.v] 36))
                    have hzs := SI.lt
                    have hzc := CI.lt
                    obtain ⟨s0, s1, s2, -⟩ := SI.cells
                    obtain ⟨k0, k1, k2, -⟩ := CI.cells
                    by_cases hii : x.i = y.i
                    · have hz : (x.i == y.i) = true := by simpa using hii
                      have HC : Hid (¬ Compat e y x) := fun h => h.1 hii.symm
                      clear hii
                      go_wp2
                      have q1 := HQ1.out
                      have q2 := HQ2.out
                      have q3 := HQ3.out
                      have q4 := HQ4.out
                      have e0 := HE0.out
                      go_quiet (fail)
                      clear q1 q2 q3 q4 e0
                      go_wp2
                      go_ret
                      exact RetM.no (HN2.out HC.out) (below_drewN BJ _)
                    · have hz : (x.i == y.i) = false := by simpa using hii
                      by_cases hoo : x.o = y.o
                      · have hz2 : (x.o == y.o) = true := by simpa using hoo
                        have HC : Hid (¬ Compat e y x) := fun h => h.2.1 hoo.symm
                        clear hii hoo
                        go_wp2
                        have q1 := HQ1.out
                        have q2 := HQ2.out
                        have q3 := HQ3.out
                        have q4 := HQ4.out
                        have e0 := HE0.out
                        go_quiet (fail)
                        clear q1 q2 q3 q4 e0
                        go_wp2
                        go_ret
                        exact RetM.no (HN2.out HC.out) (below_drewN BJ _)
                      · have hz2 : (x.o == y.o) = false := by simpa using hoo
                        by_cases hvv : x.v = y.v
                        · have hz3 : (x.v == y.v) = true := by simpa using hvv
                          by_cases hie : x.i / e = y.i / e
                          · have hz4 : (x.i / e == y.i / e) = true := by simpa using hie
                            have HC : Hid (¬ Compat e y x) := fun h => (h.2.2 hvv.symm).1 hie.symm
                            clear hii hoo hvv hie
                            go_wp2
                            have q1 := HQ1.out
                            have q2 := HQ2.out
                            have q3 := HQ3.out
                            have q4 := HQ4.out
                            have e0 := HE0.out
                            go_quiet (fail)
                            clear q1 q2 q3 q4 e0
                            go_wp2
                            go_ret
                            exact RetM.no (HN2.out HC.out) (below_drewN BJ _)
                          · have hz4 : (x.i / e == y.i / e) = false := by simpa using hie
                            by_cases hoe : x.o / e = y.o / e
                            · have hz5 : (x.o / e == y.o / e) = true := by simpa using hoe
                              have HC : Hid (¬ Compat e y x) := fun h => (h.2.2 hvv.symm).2 hoe.symm
                              clear hii hoo hvv hie hoe
                              go_wp2
                              have q1 := HQ1.out
                              have q2 := HQ2.out
                              have q3 := HQ3.out
                              have q4 := HQ4.out
                              have e0 := HE0.out
                              go_quiet (fail)
                              clear q1 q2 q3 q4 e0
                              go_wp2
                              go_ret
                              exact RetM.no (HN2.out HC.out) (below_drewN BJ _)
                            · have hz5 : (x.o / e == y.o / e) = false := by simpa using hoe
                              have HC : Hid (Compat e y x) := ⟨fun h => hii h.symm, fun h => hoo h.symm, fun _ => ⟨fun h => hie h.symm, fun h => hoe h.symm⟩⟩
                              clear hii hoo hvv hie hoe
                              go_wp2
                              have q1 := HQ1.out
                              have q2 := HQ2.out
                              have q3 := HQ3.out
                              have q4 := HQ4.out
                              have e0 := HE0.out
                              go_quiet (fail)
                              clear q1 q2 q3 q4 e0
                              go_wp2
                              go_roundg (k - (j + 1))
                              case rel => exact ⟨j + 1, by omega, rfl, by go_num, compat_take HP.out HY.out HC.out, below_drewN (bstep hbi (below_box wr _)) _⟩
                              case measure => omega
                        · have hz3 : (x.v == y.v) = false := by simpa using hvv
                          have HC : Hid (Compat e y x) := ⟨fun h => hii h.symm, fun h => hoo h.symm, fun h => absurd h.symm hvv⟩
                          clear hii hoo hvv
                          go_wp2
                          have q1 := HQ1.out
                          have q2 := HQ2.out
                          have q3 := HQ3.out
                          have q4 := HQ4.out
                          have e0 := HE0.out
                          go_quiet (fail)
                          clear q1 q2 q3 q4 e0
                          go_wp2
                          go_roundg (k - (j + 1))
                          case rel => exact ⟨j + 1, by omega, rfl, by go_num, compat_take HP.out HY.out HC.out, below_drewN (bstep hbi (below_box wr _)) _⟩
                          case measure => omega
                  · go_wp2
                    obtain rfl : j = k := by omega
                    go_roundg (n - (j + 1))
                    case rel => exact ⟨j + 1, by omega, rfl, by go_num, HV.out.succ HX.out HK.out HP.out, BW'⟩
                    case measure => omega
      · go_wp2
        go_ret
        exact RetM.yes (HV.out.done HS.out (by rw [HL.out]; omega)) BO
  · have HS : Hid (shapeB o e m = false) := by
      show _ = _
      cases h : shapeB o e m
      · rfl
      · exact absurd (shape_ok.1 h) hs
    have HN := Lib.hid hs; clear hs
    go_enter Try.func17, Try.ntmps17
    go_wp2_with fail
    refine (spec_ShapeValid o e m _).mono ?_
    rintro r w1 ⟨rfl, b1⟩
    rw [HS.out]
    go_wp2
    go_ret
    exact RetM.no (fun h => HN.out h.1) (bstep (below_box w _) b1)
end Go.Proofs.Ytcickfahpcmcdaa
