/- CallsValid of the program and of the reference answer whether the calls are possible at the same time. Condition: at most 1048576 calls. -/
import Derived.Test.Ytcickfahpcmcdaa4v
namespace Go.Proofs.Ytcickfahpcmcdaa
open Go.RowKit
set_option linter.unusedSimpArgs false
set_option linter.unusedVariables false
def ValidTo (o e m : Int) (ys : List Cl) : Prop := (∀ c ∈ ys, OkC o e m c) ∧ ys.Pairwise (Compat e)
section
variable {o e m : Int} {xs : List Cl} {k j : Nat} {x y : Cl}
theorem ValidTo.succ (h : ValidTo o e m (xs.take k)) (hx : xs[k]? = some x) (ho : OkC o e m x) (hp : ∀ d ∈ xs.take k, Compat e d x) : ValidTo o e m (xs.take (k + 1)) := by
  rw [take_snoc hx]
  refine ⟨fun c hc => ?_, ?_⟩
  · rcases List.mem_append.1 hc with h1 | h1
    · exact h.1 c h1
    · simp at h1; subst h1; exact ho
  · rw [List.pairwise_append]
    exact ⟨h.2, by simp, fun a ha b hb => by simp at hb; subst hb; exact hp a ha⟩
theorem ValidTo.done (h : ValidTo o e m (xs.take k)) (hs : ShapeOk o e m) (hk : xs.length ≤ k) : CallsOk o e m xs := by
  rw [List.take_of_length_le hk] at h; exact ⟨hs, h.1, h.2⟩
theorem not_calls_one (hx : xs[k]? = some x) (ho : ¬ OkC o e m x) : ¬ CallsOk o e m xs := fun h => ho (h.okAt hx)
theorem not_calls_two (hj : j < k) (hx : xs[k]? = some x) (hy : xs[j]? = some y) (hc : ¬ Compat e y x) : ¬ CallsOk o e m xs := fun h => hc (h.compat hy hx (by omega))
theorem compat_take (h : ∀ d ∈ xs.take j, Compat e d x) (hy : xs[j]? = some y) (hc : Compat e y x) : ∀ d ∈ xs.take (j + 1), Compat e d x := by
  rw [take_snoc hy]
  intro d hd
  rcases List.mem_append.1 hd with h1 | h1
  · exact h d h1
  · simp at h1; subst h1; exact hc
end
set_option maxRecDepth 100000 in
set_option maxHeartbeats 2000000 in
theorem impl_CallsValid (o e m : Int) (A : Option Addr) (n c : Nat) (xs : List Cl) (w : World) (hx : RdC w A n xs) (hc : n ≤ c) (hn : n ≤ 1048576) :
    Calls Try.prog 22 #[shv o e m, .slice A n c] w (RetM (CallsOk o e m xs) w) := by
  have HL := hx.len
  by_cases hs : ShapeOk o e m
  · obtain ⟨hs1, hs2, hs3, hs4, hs5, hs6⟩ := id hs
    obtain ⟨hp1, hp2⟩ := prod_bd hs
    have HS := Lib.hid hs; clear hs
    go_enter Try.func22, Try.ntmps22
    go_wp2_with fail
    refine (impl_ShapeValid o e m _).mono ?_
    rintro r w1 ⟨rfl, b1⟩
    rw [shape_ok.2 HS.out]
    have S1 := (ShAt.new w o e m).below b1
    have B1 := bstep (below_box w _) b1
    clear b1
    go_wp2
    go_loopg [14] n (fun g i wr => ∃ k : Nat, k ≤ n ∧ g = n - k ∧ i = .int .i64 k ∧ Hid (ValidTo o e m (xs.take k)) ∧ Below w1.heap.size w1 wr)
    case atStart => exact ⟨0, Nat.zero_le _, rfl, rfl, ⟨by simp, by simp⟩, Below.refl _ _⟩
    case round =>
      obtain ⟨k, hk, rfl, rfl, HV, hbel⟩ := hrel
      obtain ⟨wo, rfl⟩ : ∃ wo : World, wo = wr := ⟨_, rfl⟩
      have BO := bstep B1 hbel
      have SO := S1.below hbel
      by_cases hlt : k < n
      · obtain ⟨b, off, x, rfl, HX, g0, g1, g2⟩ := RdC.at (hx.below BO (Nat.le_refl _)) hlt
        have HNO : Hid (¬ OkC o e m x → ¬ CallsOk o e m xs) := not_calls_one HX.out
        have C2 := ClAt.new wo x
        have S2 := SO.alloc (.cells #[.int .i64 x.i, .int .i64 x.o, .int .i64 x.v] 36)
        have BW2 := bstep hbel (below_box wo (.cells #[.int .i64 x.i, .int .i64 x.o, .int .i64 x.v] 36))
        have B2 := bstep BO (below_box wo (.cells #[.int .i64 x.i, .int .i64 x.o, .int .i64 x.v] 36))
        have hz0 := SO.lt
        obtain ⟨s0, s1, s2, -⟩ := SO.cells
        go_wp2_with fail
        refine (impl_hasLine o e m x.i _ HS.out).mono ?_
        rintro r w3 ⟨rfl, b3⟩
        have C3 := C2.below b3
        have S3 := S2.below b3
        have B3 := bstep B2 b3
        have BW3 := bstep BW2 b3
        clear s0 s1 s2 b3
        cases hi : lineB o e x.i with
        | false =>
          have HI := Lib.hid hi; clear hi
          go_wp2
          go_ret
          exact RetM.no (HNO.out (fun h => by have := lineB_iff.2 h.1; rw [HI.out] at this; cases this)) B3
        | true =>
          have HI := Lib.hid (lineB_iff.1 hi); clear hi
          obtain ⟨s0, s1, s2, -⟩ := S3.cells
          obtain ⟨k0, k1, k2, -⟩ := C3.cells
          go_wp2_with fail
          refine (impl_hasLine o e m x.o _ HS.out).mono ?_
          rintro r w4 ⟨rfl, b4⟩
          have C4 := C3.below b4
          have S4 := S3.below b4
          have B4 := bstep B3 b4
          have BW4 := bstep BW3 b4
          clear s0 s1 s2 k0 k1 k2 b4
          cases ho : lineB o e x.o with
          | false =>
            have HO := Lib.hid ho; clear ho
            go_wp2
            go_ret
            exact RetM.no (HNO.out (fun h => by have := lineB_iff.2 h.2.1; rw [HO.out] at this; cases this)) B4
          | true =>
            have HO := Lib.hid (lineB_iff.1 ho); clear ho
            obtain ⟨s0, s1, s2, -⟩ := S4.cells
            obtain ⟨k0, k1, k2, -⟩ := C4.cells
            by_cases hv0 : x.v < 0
            · have hv0z : decide (x.v < 0) = true := by simpa using hv0
              go_wp2
              go_ret
              exact RetM.no (HNO.out (fun h => by have := h.2.2.1; omega)) B4
            · have hv0z : decide (x.v < 0) = false := by simpa using hv0
              by_cases hv1 : m ≤ x.v
              · have hv1z : decide (m ≤ x.v) = true := by simpa using hv1
                go_wp2
                go_ret
                exact RetM.no (HNO.out (fun h => by have := h.2.2.2; omega)) B4
              · have hv1z : decide (m ≤ x.v) = false := by simpa using hv1
                have HK : Hid (OkC o e m x) := ⟨HI.out, HO.out, by omega, by omega⟩
                obtain ⟨hxi, hxi2⟩ := HI.out
                obtain ⟨hxo, hxo2⟩ := HO.out
                go_wp2
                clear s0 s1 s2 k0 k1 k2
                go_loopg [47] k (fun g i wi => ∃ j : Nat, j ≤ k ∧ g = k - j ∧ i = .int .i64 j ∧ Hid (∀ d ∈ xs.take j, Compat e d x) ∧ Below w4.heap.size w4 wi)
                case atStart => exact ⟨0, Nat.zero_le _, rfl, rfl, (by show ∀ d ∈ xs.take 0, Compat e d x; simp), Below.refl _ _⟩
                case round =>
                  obtain ⟨j, hj, rfl, rfl, HP, hbi⟩ := hrel
                  have BI := bstep B4 hbi
                  have BW' := bstep BW4 hbi
                  have SI := S4.below hbi
                  have CI := C4.below hbi
                  by_cases hjk : j < k
                  · obtain ⟨b', off', y, hA, HY, g0', g1', g2'⟩ := RdC.at (hx.below BI (Nat.le_refl _)) (k := j) (by omega)
                    injection hA with hA; injection hA with hA1 hA2; subst hA1 hA2
                    have HN2 : Hid (¬ Compat e y x → ¬ CallsOk o e m xs) := not_calls_two hjk HX.out HY.out
                    have HYK : Hid (OkC o e m y) := HV.out.1 y (at_mem_take hjk HY.out)
                    obtain ⟨hyi, hyi2⟩ := HYK.out.1
                    obtain ⟨hyo, hyo2⟩ := HYK.out.2.1
                    have HQ1 := Lib.hid (IntWalk.i64_quo y.i e ⟨hyi, by omega, hs3⟩)
                    have HQ2 := Lib.hid (IntWalk.i64_quo x.i e ⟨hxi, by omega, hs3⟩)
                    have HQ3 := Lib.hid (IntWalk.i64_quo y.o e ⟨hyo, by omega, hs3⟩)
                    have HQ4 := Lib.hid (IntWalk.i64_quo x.o e ⟨hxo, by omega, hs3⟩)
                    have HE0 : Hid (¬ e = 0) := by show ¬ e = 0; omega
                    have BJ := bstep BI (below_box wr (.cells #[.int .i64 y.i, .int .i64 y.o, .int .i64 y.v] 36))
                    have hzs := SI.lt
                    have hzc := CI.lt
                    obtain ⟨s0, s1, s2, -⟩ := SI.cells
                    obtain ⟨k0, k1, k2, -⟩ := CI.cells
                    by_cases hii : y.i = x.i
                    · have hz : (y.i == x.i) = true := by simpa using hii
                      have HII := Lib.hid hii; clear hii
                      go_wp2
                      go_ret
                      exact RetM.no (HN2.out (fun h => h.1 HII.out)) BJ
                    · have hz : (y.i == x.i) = false := by simpa using hii
                      have HII := Lib.hid hii; clear hii
                      by_cases hoo : y.o = x.o
                      · have hz2 : (y.o == x.o) = true := by simpa using hoo
                        have HOO := Lib.hid hoo; clear hoo
                        go_wp2
                        go_ret
                        exact RetM.no (HN2.out (fun h => h.2.1 HOO.out)) BJ
                      · have hz2 : (y.o == x.o) = false := by simpa using hoo
                        have HOO := Lib.hid hoo; clear hoo
                        by_cases hvv : y.v = x.v
                        · have hz3 : (y.v == x.v) = true := by simpa using hvv
                          by_cases hie : y.i / e = x.i / e
                          · have hz4 : (y.i / e == x.i / e) = true := by simpa using hie
                            have HC : Hid (¬ Compat e y x) := fun h => (h.2.2 hvv).1 hie
                            clear hvv hie
                            go_wp2
                            have q1 := HQ1.out
                            have q2 := HQ2.out
                            have q3 := HQ3.out
                            have q4 := HQ4.out
                            have e0 := HE0.out
                            go_quiet (fail)
                            clear q1 q2 q3 q4 e0
                            go_wp2
                            go_ret
                            exact RetM.no (HN2.out HC.out) (below_drewN BJ _)
                          · have hz4 : (y.i / e == x.i / e) = false := by simpa using hie
                            by_cases hoe : y.o / e = x.o / e
                            · have hz5 : (y.o / e == x.o / e) = true := by simpa using hoe
                              have HC : Hid (¬ Compat e y x) := fun h => (h.2.2 hvv).2 hoe
                              clear hvv hie hoe
                              go_wp2
                              have q1 := HQ1.out
                              have q2 := HQ2.out
                              have q3 := HQ3.out
                              have q4 := HQ4.out
                              have e0 := HE0.out
                              go_quiet (fail)
                              clear q1 q2 q3 q4 e0
                              go_wp2
                              go_ret
                              exact RetM.no (HN2.out HC.out) (below_drewN BJ _)
                            · have hz5 : (y.o / e == x.o / e) = false := by simpa using hoe
                              have HC : Hid (y.v = x.v → y.i / e ≠ x.i / e ∧ y.o / e ≠ x.o / e) := fun _ => ⟨hie, hoe⟩
                              clear hvv hie hoe
                              go_wp2
                              have q1 := HQ1.out
                              have q2 := HQ2.out
                              have q3 := HQ3.out
                              have q4 := HQ4.out
                              have e0 := HE0.out
                              go_quiet (fail)
                              clear q1 q2 q3 q4 e0
                              go_wp2
                              go_roundg (k - (j + 1))
                              case rel => exact ⟨j + 1, by omega, rfl, by go_num, compat_take HP.out HY.out ⟨HII.out, HOO.out, HC.out⟩, below_drewN (bstep hbi (below_box wr _)) _⟩
                              case measure => omega
                        · have hz3 : (y.v == x.v) = false := by simpa using hvv
                          have HC : Hid (y.v = x.v → y.i / e ≠ x.i / e ∧ y.o / e ≠ x.o / e) := fun h => absurd h hvv
                          clear hvv
                          go_wp2
                          have q1 := HQ1.out
                          have q2 := HQ2.out
                          have q3 := HQ3.out
                          have q4 := HQ4.out
                          have e0 := HE0.out
                          go_quiet (fail)
                          clear q1 q2 q3 q4 e0
                          go_wp2
                          go_roundg (k - (j + 1))
                          case rel => exact ⟨j + 1, by omega, rfl, by go_num, compat_take HP.out HY.out ⟨HII.out, HOO.out, HC.out⟩, below_drewN (bstep hbi (below_box wr _)) _⟩
                          case measure => omega
                  · go_wp2
                    obtain rfl : j = k := by omega
                    go_roundg (n - (j + 1))
                    case rel => exact ⟨j + 1, by omega, rfl, by go_num, HV.out.succ HX.out HK.out HP.out, BW'⟩
                    case measure => omega
      · go_wp2
        go_ret
        exact RetM.yes (HV.out.done HS.out (by rw [HL.out]; omega)) BO
  · have HS : Hid (shapeB o e m = false) := by
      show _ = _
      cases h : shapeB o e m
      · rfl
      · exact absurd (shape_ok.1 h) hs
    have HN := Lib.hid hs; clear hs
    go_enter Try.func22, Try.ntmps22
    go_wp2_with fail
    refine (impl_ShapeValid o e m _).mono ?_
    rintro r w1 ⟨rfl, b1⟩
    rw [HS.out]
    go_wp2
    go_ret
    exact RetM.no (fun h => HN.out h.1) (bstep (below_box w _) b1)
end Go.Proofs.Ytcickfahpcmcdaa
