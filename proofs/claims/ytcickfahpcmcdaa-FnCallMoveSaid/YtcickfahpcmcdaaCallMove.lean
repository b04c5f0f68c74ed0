/- FnCallMove returns true for every code. No condition. -/
import Derived.Test.YtcickfahpcmcdaaFrame
import Derived.Test.YtcickfahpcmcdaaPerm
import Derived.Test.YtcickfahpcmcdaaAsk2
import Derived.Test.Ytcickfahpcmcdaa4sc
import Derived.Test.Ytcickfahpcmcdaa4mq
import Derived.Test.Ytcickfahpcmcdaa4mt
namespace Go.Proofs.Ytcickfahpcmcdaa.callMove
open Go.ChangeShapes Go.WideShapes Go.ChangeAt Go.RowKit
set_option linter.unusedSimpArgs false
set_option linter.unusedVariables false
set_option maxHeartbeats 4000000 in
set_option maxRecDepth 100000 in
theorem walk (A : Option Addr) (n c : Nat) (zs : List Int) (w : World) (f : RdL (Value.int .u8) w A n zs ∧ n ≤ c ∧ c ≤ maxLen ∧ ∀ z ∈ zs, (Lit.int .u8 z).wf = true) :
    Calls Try.prog 3 #[.slice A n c] w fun e w' => e = .returned (.bool true) ∧ Below w.heap.size w w' := by
  obtain ⟨hx, hc, hm, hz⟩ := f
  have HZ := Lib.hid (bytes_wf hz)
  clear hz
  by_cases hn : n ≤ 1048576
  · go_enter Try.func3, Try.ntmps3
    go_wp2_with fail
    refine (DrawCallMove_any A n c zs w hx HZ.out hc hn).mono ?_
    rintro x w1 ⟨o, e, m, A1, n1, c1, xs, i, q, rfl, HB, hn1, O1, b1⟩
    obtain ⟨ho0, ho1, he0, he1, hm0, hm1⟩ := HB.out
    have S1 := ShAt.new w1 o e m
    have O1' := OwnM.alloc O1 (.cells #[.int .i64 o, .int .i64 e, .int .i64 m] 24)
    have hX := OwnC.rd O1'
    have hcap := (OwnM.cap O1).1
    have HLX := hX.len
    have B1 := bbox b1 b1.size (.cells #[.int .i64 o, .int .i64 e, .int .i64 m] 24)
    clear O1 O1'
    obtain ⟨s0, s1, s2, -⟩ := S1.cells

    obtain ⟨hp0, hp1⟩ := mul_bd ho0 ho1 he0 he1
    go_wp2_with fail
    refine (impl_CallMove o e m A1 n1 c1 xs i q _ hX hcap (by omega)).mono ?_
    rintro x w2 ⟨A2, n2, c2, ys, t, rfl, HP2, O2, b2⟩
    have S2 := S1.below b2
    have B2 := bstep B1 b2
    have hX2 := RdM.below hX b2 (Nat.le_refl _)
    have hl2 : n2 ≤ 17 := by have h1 := move_le o e m xs i q; rw [HP2.out] at h1; have h2 := (OwnC.len O2).out; have h3 := HLX.out; simp at h1; omega
    clear s0 s1 s2
    obtain ⟨s0, s1, s2, -⟩ := S2.cells
    go_wp2_with fail
    refine (spec_CallMove o e m A1 n1 c1 xs i q _ hX2 hcap (by omega)).mono ?_
    rintro x w3 ⟨A3, n3, c3, ys', t', rfl, HP3, O3, b3⟩
    obtain ⟨rfl, rfl⟩ : ys = ys' ∧ t = t' := by have h := HP2.out.symm.trans HP3.out; injection h with h1 h2; exact ⟨h1, h2⟩
    have hl3 : n3 = n2 := by rw [← (OwnC.len O3).out, ← (OwnC.len O2).out]
    subst hl3
    have S3 := S2.below b3
    have B3 := bstep B2 b3
    have hX3 := RdM.below hX2 b3 (Nat.le_refl _)
    have hY2 := RdM.below (OwnC.rd O2) b3 (Nat.le_refl _)
    have hY3 := OwnC.rd O3
    have hcapY := (OwnM.cap O2).1
    clear s0 s1 s2
    go_wp2_with fail
    refine (sameCalls_any A2 A3 n3 n3 c2 c3 ys ys _ hY2 hY3 (by omega) (by omega)).mono ?_
    rintro x w4 ⟨v4, rfl, hv4, m4, rfl⟩
    obtain rfl := hv4.out.2 rfl
    clear hv4 O2 O3 hY3
    have S4 := S3.drewN m4
    have B4 := below_drewN B3 m4
    have hX4 := hX3.drewN m4
    have hY4 := hY2.drewN m4
    clear S3 B3 hX3 hY2
    have htt : (t != t) = false := by simp
    by_cases hv : CallsOk o e m xs
    · have HOK := Lib.hid hv; clear hv
      obtain ⟨s0, s1, s2, -⟩ := S4.cells
      go_wp2_with fail
      refine (spec_CallsValid o e m A1 n1 c1 xs _ hX4 hcap (by omega)).mono ?_
      rintro x w5 ⟨v5, rfl, hv5, b5⟩
      obtain rfl := hv5.out.2 HOK.out
      clear hv5 s0 s1 s2
      have S5 := S4.below b5
      have B5 := bstep B4 b5
      have hX5 := RdM.below hX4 b5 (Nat.le_refl _)
      have hY5 := RdM.below hY4 b5 (Nat.le_refl _)
      clear S4 B4 hX4 hY4
      obtain ⟨s0, s1, s2, -⟩ := S5.cells
      go_wp2_with fail
      refine (spec_Enough o e m _).mono ?_
      rintro x w6 ⟨rfl, b6⟩
      have S6 := S5.below b6
      have B6 := bstep B5 b6
      have hX6 := RdM.below hX5 b6 (Nat.le_refl _)
      have hY6 := RdM.below hY5 b6 (Nat.le_refl _)
      clear S5 B5 hX5 hY5 s0 s1 s2
      by_cases he : e ≤ m
      · have HEN : Hid (enoughB o e m = true) := enough_ok.2 ⟨HOK.out.1, he⟩
        have HEM := Lib.hid he; clear he
        rw [HEN.out]
        obtain ⟨s0, s1, s2, -⟩ := S6.cells
        by_cases hf : LinesFree o e xs i q
        · have HF := Lib.hid hf; clear hf
          obtain ⟨ys0, v0, p1, p2, p3, p4, p5, p6⟩ := moveL_ok HOK.out HEM.out HF.out
          have hyt : ys = ys0 ++ [⟨i, q, v0⟩] ∧ t = true := by have h := HP2.out.symm.trans p1; injection h with h1 h2; exact ⟨h1, h2⟩
          obtain ⟨rfl, rfl⟩ := hyt
          have HP2' := Lib.hid p2
          have HP4 := Lib.hid p4
          have HP5 := Lib.hid p5
          have HP6 := Lib.hid p6
          have hn3 : n3 = n1 + 1 := by have h := hY6.len.out; have h2 := HLX.out; simp at h; omega
          have HL0 : Hid (ys0.length = n1) := by show _ = _; rw [p3, HLX.out]
          clear p1 p2 p3 p4 p5 p6 HP2 HP3
          subst hn3
          obtain ⟨hi0, hi1⟩ := HF.out.1
          obtain ⟨hq0, hq1⟩ := HF.out.2.1
          have z1 : decide (0 ≤ i) = true := decide_eq_true hi0
          have z2 : decide (0 ≤ q) = true := decide_eq_true hq0
          have z3 : decide (i < o * e) = true := decide_eq_true hi1
          have z4 : decide (q < o * e) = true := decide_eq_true hq1
          obtain ⟨by_, offy, yl, rfl, HYL, gy0, gy1, gy2⟩ := RdC.at hY6 (k := n1) (by omega)
          have hyl : yl = ⟨i, q, v0⟩ := by have h := HYL.out; rw [List.getElem?_append_right (by rw [HL0.out]; exact Nat.le_refl _), HL0.out, Nat.sub_self] at h; simp at h; exact h.symm
          subst hyl
          clear HYL gy2
          simp only at gy0 gy1
          have hii : (i != i) = false := by simp
          have hqq : (q != q) = false := by simp
          clear hi0 hi1 hq0 hq1
          go_wp2_with fail
          refine (busy_any A1 n1 c1 xs i q _ hX6 (by omega)).mono ?_
          rintro x w7 ⟨v7, rfl, hv7, m7, rfl⟩
          have hvf : v7 = false := by
            cases v7 with
            | false => rfl
            | true =>
              obtain ⟨c, hc1, hc2⟩ := hv7.out.1 rfl
              have := HF.out.2.2 c hc1
              rcases hc2 with h | h
              · exact absurd h this.1
              · exact absurd h this.2
          subst hvf
          clear hv7
          have hnn : (((n1 + 1 : Nat) : Int) != (n1 : Int) + 1) = false := by simp
          go_wp2_with fail
          go_loopg [12] n1 (fun g s12 wr => ∃ k mm : Nat, k ≤ n1 ∧ g = n1 - k ∧ s12 = .int .i64 k ∧ wr = w6.drewN mm)
          case atStart => exact ⟨0, m7, Nat.zero_le _, rfl, rfl, rfl⟩
          case round =>
            obtain ⟨k, mm, hk, rfl, rfl, rfl⟩ := hrel
            by_cases hlt : k < n1
            · obtain ⟨bk, offk, xk, rfl, HXK, gx0, gx1, gx2⟩ := RdC.at hX6 hlt
              obtain ⟨bj, offj, yk, hA, HYK, gk0, gk1, gk2⟩ := RdC.at hY6 (k := k) (by omega)
              injection hA with hA; injection hA with hA1 hA2; subst hA1 hA2
              have hio : yk.i = xk.i ∧ yk.o = xk.o := HP4.out k yk xk (by have h := HYK.out; rwa [List.getElem?_append_left (by rw [HL0.out]; exact hlt)] at h) HXK.out
              rw [hio.1] at gk0
              rw [hio.2] at gk1
              clear hio
              have e1 : (xk.i != xk.i) = false := by simp
              have e2 : (xk.o != xk.o) = false := by simp
              have hk0 : (0 : Int) ≤ (k : Int) := Int.natCast_nonneg _
              have hk1 : (k : Int) < (n1 : Int) := by omega
              have hk2 : (k : Int) < ((n1 + 1 : Nat) : Int) := by omega
              have hk3 : (k : Int) < (n1 : Int) + 1 := by omega
              go_wp2
              go_quiet (fail)
              go_wp2
              go_roundg (n1 - (k + 1))
              case rel => exact ⟨k + 1, _, by omega, rfl, by go_num, rfl⟩
              case measure => omega
            · obtain ⟨V, HV⟩ : ∃ V, Hid (movedC xs (ys0 ++ [(⟨i, q, v0⟩ : Cl)]) = V) := ⟨_, rfl⟩
              have HVV : Hid (movedC xs ys0 = V) := by show _ = _; rw [← HV.out, movedC_app _ _ _ (by rw [HL0.out, HLX.out])]
              have hV1 : V ≤ 2 * o - 1 := by rw [← HVV.out]; exact HP6.out
              have hV0 : 0 ≤ V := by rw [← HVV.out]; exact (movedC_le xs ys0).1
              clear gy0 gy1
              go_wp2_with fail
              refine (impl_CallsMoved A1 _ n1 (n1 + 1) c1 c2 xs (ys0 ++ [⟨i, q, v0⟩]) _ (hX6.drewN mm) (hY6.drewN mm) (by omega) (by omega)).mono ?_
              rintro x w8 ⟨rfl, m8, rfl⟩
              rw [HV.out]
              have S8 := S6.drewN (mm + m8)
              clear s0 s1 s2
              obtain ⟨s0, s1, s2, -⟩ := S8.cells
              go_wp2_with fail
              refine (impl_CallsValid o e m _ (n1 + 1) c2 (ys0 ++ [⟨i, q, v0⟩]) _ (hY6.drewN (mm + m8)) hcapY (by omega)).mono ?_
              rintro x w9 ⟨v9, rfl, hv9, b9⟩
              obtain rfl := hv9.out.2 HP2'.out
              clear hv9 s0 s1 s2
              have S9 := S8.below b9
              have B9 := bstep (below_drewN B6 (mm + m8)) b9
              have hX9 := RdM.below (hX6.drewN (mm + m8)) b9 (Nat.le_refl _)
              obtain ⟨s0, s1, s2, -⟩ := S9.cells
              go_wp2_with fail
              refine (impl_MiddleFree o e m A1 n1 c1 xs i q _ hX9 hcap (by omega)).mono ?_
              rintro x w10 ⟨A10, n10, c10, rfl, O10, b10⟩
              have B10 := bstep B9 b10
              have S10 := S9.below b10
              clear s0 s1 s2
              obtain ⟨s0, s1, s2, -⟩ := S10.cells
              have zV : decide (V ≤ 2 * o - 1) = true := decide_eq_true hV1
              by_cases h0 : n10 = 0
              · subst h0
                go_wp2
                go_ret
                exact ⟨rfl, B10⟩
              · have hz : ((n10 : Int) == 0) = false := by rw [beq_eq_false_iff_ne]; omega
                have hVz : V = 0 := by
                  rcases HP5.out with h | h
                  · have := O10.len.out; rw [h] at this; simp at this; omega
                  · rw [← HVV.out]; exact h
                have hVz' : (V == 0) = true := by simp [hVz]
                clear h0 hVz
                go_wp2
                go_ret
                exact ⟨rfl, B10⟩
        · have HNF := Lib.hid hf; clear hf
          have hyt : ys = xs ∧ t = false := by have h := HP2.out.symm.trans (move_busy HOK.out HEM.out HNF.out); injection h with h1 h2; exact ⟨h1, h2⟩
          obtain ⟨rfl, rfl⟩ := hyt
          clear HP2 HP3
          by_cases h1 : 0 ≤ i
          · by_cases h2 : 0 ≤ q
            · by_cases h3 : i < o * e
              · by_cases h4 : q < o * e
                · have HBUSY : Hid (∃ c ∈ ys, c.i = i ∨ c.o = q) := by
                    show ∃ c ∈ ys, c.i = i ∨ c.o = q
                    by_cases hx : ∃ c ∈ ys, c.i = i ∨ c.o = q
                    · exact hx
                    · exact absurd (show LinesFree o e ys i q from ⟨⟨h1, h3⟩, ⟨h2, h4⟩, fun c hc => ⟨fun h => hx ⟨c, hc, .inl h⟩, fun h => hx ⟨c, hc, .inr h⟩⟩⟩) HNF.out
                  have z1 : decide (0 ≤ i) = true := decide_eq_true h1
                  have z2 : decide (0 ≤ q) = true := decide_eq_true h2
                  have z3 : decide (i < o * e) = true := decide_eq_true h3
                  have z4 : decide (q < o * e) = true := decide_eq_true h4
                  go_wp2_with fail
                  refine (busy_any A1 n1 c1 ys i q _ hX6 (by omega)).mono ?_
                  rintro x w7 ⟨v7, rfl, hv7, m7, rfl⟩
                  obtain rfl := hv7.out.2 HBUSY.out
                  clear hv7
                  go_wp2_with fail
                  refine (sameCalls_any A2 A1 n3 n1 c2 c1 ys ys _ (hY6.drewN _) (hX6.drewN _) (by omega) (by omega)).mono ?_
                  rintro x w9 ⟨v9, rfl, hv9, m9, rfl⟩
                  obtain rfl := hv9.out.2 rfl
                  clear hv9
                  go_wp2
                  go_ret
                  exact ⟨rfl, below_drewN B6 _⟩
                ·
                  have z1 : decide (0 ≤ i) = true := decide_eq_true h1
                  have z2 : decide (0 ≤ q) = true := decide_eq_true h2
                  have z3 : decide (i < o * e) = true := decide_eq_true h3
                  have z4 : decide (q < o * e) = false := decide_eq_false h4
                  go_wp2_with fail
                  refine (sameCalls_any A2 A1 n3 n1 c2 c1 ys ys _ hY6 hX6 (by omega) (by omega)).mono ?_
                  rintro x w9 ⟨v9, rfl, hv9, m9, rfl⟩
                  obtain rfl := hv9.out.2 rfl
                  clear hv9
                  go_wp2
                  go_ret
                  exact ⟨rfl, below_drewN B6 _⟩
              ·
                have z1 : decide (0 ≤ i) = true := decide_eq_true h1
                have z2 : decide (0 ≤ q) = true := decide_eq_true h2
                have z3 : decide (i < o * e) = false := decide_eq_false h3
                go_wp2_with fail
                refine (sameCalls_any A2 A1 n3 n1 c2 c1 ys ys _ hY6 hX6 (by omega) (by omega)).mono ?_
                rintro x w9 ⟨v9, rfl, hv9, m9, rfl⟩
                obtain rfl := hv9.out.2 rfl
                clear hv9
                go_wp2
                go_ret
                exact ⟨rfl, below_drewN B6 _⟩
            ·
              have z1 : decide (0 ≤ i) = true := decide_eq_true h1
              have z2 : decide (0 ≤ q) = false := decide_eq_false h2
              go_wp2_with fail
              refine (sameCalls_any A2 A1 n3 n1 c2 c1 ys ys _ hY6 hX6 (by omega) (by omega)).mono ?_
              rintro x w9 ⟨v9, rfl, hv9, m9, rfl⟩
              obtain rfl := hv9.out.2 rfl
              clear hv9
              go_wp2
              go_ret
              exact ⟨rfl, below_drewN B6 _⟩
          ·
            have z1 : decide (0 ≤ i) = false := decide_eq_false h1
            go_wp2_with fail
            refine (sameCalls_any A2 A1 n3 n1 c2 c1 ys ys _ hY6 hX6 (by omega) (by omega)).mono ?_
            rintro x w9 ⟨v9, rfl, hv9, m9, rfl⟩
            obtain rfl := hv9.out.2 rfl
            clear hv9
            go_wp2
            go_ret
            exact ⟨rfl, below_drewN B6 _⟩
      · have HEN : Hid (enoughB o e m = false) := by
          show _ = _
          cases h : enoughB o e m with
          | false => rfl
          | true => exact absurd (enough_ok.1 h).2 he
        have hyt : ys = [] ∧ t = false := by have h := HP2.out.symm.trans (move_neg (fun h => he h.2)); injection h with h1 h2; exact ⟨h1, h2⟩
        obtain ⟨rfl, rfl⟩ := hyt
        obtain rfl : n3 = 0 := by have h := hY6.len.out; simp at h; exact h.symm
        clear he HP2 HP3
        rw [HEN.out]
        go_wp2_with fail
        refine (alive_any _).mono ?_
        rintro x w9 ⟨rfl, b9⟩
        go_wp2
        go_ret
        exact ⟨rfl, bstep B6 b9⟩
    · have HOK := Lib.hid hv
      have hyt : ys = [] ∧ t = false := by have h := HP2.out.symm.trans (move_neg (fun h => hv h.1)); injection h with h1 h2; exact ⟨h1, h2⟩
      obtain ⟨rfl, rfl⟩ := hyt
      obtain rfl : n3 = 0 := by have h := hY4.len.out; simp at h; exact h.symm
      clear hv HP2 HP3
      obtain ⟨s0, s1, s2, -⟩ := S4.cells
      go_wp2_with fail
      refine (spec_CallsValid o e m A1 n1 c1 xs _ hX4 hcap (by omega)).mono ?_
      rintro x w5 ⟨v5, rfl, hv5, b5⟩
      have hvf : v5 = false := by
        cases v5 with
        | false => rfl
        | true => exact absurd (hv5.out.1 rfl) HOK.out
      subst hvf
      clear hv5 s0 s1 s2
      go_wp2_with fail
      refine (alive_any _).mono ?_
      rintro x w9 ⟨rfl, b9⟩
      go_wp2
      go_ret
      exact ⟨rfl, bstep (bstep B4 b5) b9⟩
  · go_enter Try.func3, Try.ntmps3
    go_wp2
    go_ret
    exact ⟨rfl, Below.refl _ _⟩
set_option maxRecDepth 100000 in
theorem lifted (os : Os) (started : os.Started) (H : Type) (enc : TypeId × Value → H) :
    ReturnsInHanded {} Try.checked os 3 .any (Rows.fnCallMoveSpec.pre6 enc Try.prog Try.f3 Rows.fnCallMoveRow.domain false) (Rows.fnCallMoveSpec.post enc Try.prog Try.f3 false true false false) := by
  refine returnsInHanded_of_change (C := Try.checked) own started (by kernel_rfl) Try.func3
    (ChangeSpec.witness6 (enc := enc) (C := Try.checked) false ⟨#[], #[.slice none 0 0], []⟩ 8 (by kernel_rfl) (by kernel_rfl) (by kernel_rfl) (by kernel_rfl)) ?_
  intro W base args ds gs before hval0 hW hcnd _
  have hval : ∀ (j : Nat) t v, Try.f3.params[j]? = some t → args[j]? = some v → Value.okWide Try.prog W .any base t v := hval0
  have hW' := hW
  obtain ⟨p, q, hA0, hV, rfl, hfz, hnd⟩ := hW
  have hA : DataW.TrodAll enc Try.prog W 0 (fun _ => true) true Try.f3.params.toList args.toList ds p := hA0
  rw [Try.params3] at hA hval
  obtain ⟨v0, vs0, d0, ds0, p0, q0, hargs, rfl, rfl, k0, r0⟩ := trodAll_cons hA
  obtain ⟨rfl, rfl, rfl⟩ := trodAll_nil r0
  obtain rfl : args = #[v0] := by cases args; simp_all
  obtain ⟨rfl, rfl⟩ := trodVars_none hV
  have lt0 : ∀ x ∈ p0, x.block < W.heap.size := by obtain ⟨m, hm⟩ := k0; exact DataW.trod_lt m _ _ _ hm
  obtain ⟨a0, n0, c0, rfl⟩ := okWide_slice Try.underlying22 (hval 0 22 v0 rfl rfl)
  obtain ⟨z0, f0⟩ := open_bytes (W := W) k0
  clear hA0 hval0
  refine (walk a0 n0 c0 z0 W f0).mono fun e W' ⟨he, bel⟩ => ?_
  subst he
  exact ⟨_, rfl, _, _, _, [], _, [], hW', trodAll_mk1 (shut_bool Try.underlying4 _), (trodAll_cons_mk (Below.trod laidOut (by kernel_rfl) (of_decide_eq_true (by kernel_rfl)) k0 bel lt0) trodAll_mk0), rfl, bel.frame _, fun h => by cases h⟩
theorem closed : joinedFacts Try.pinned.checked.prog 3 Try.f3 Rows.fnCallMoveSpec Rows.fnCallMoveRow = true := by
  unfold joinedFacts
  repeat' (with_reducible refine Bool.and_eq_true_iff.2 ⟨?_, ?_⟩)
  · kernel_rfl
  · exact laidOut
  · kernel_rfl
  · kernel_rfl
  · kernel_rfl
  · kernel_rfl
  · kernel_rfl
  · kernel_rfl
  · kernel_rfl
  · kernel_rfl
  · kernel_rfl
  · kernel_rfl
  · kernel_rfl
  · kernel_rfl
  · kernel_rfl
  · kernel_rfl
  · kernel_rfl
  · kernel_rfl
  · kernel_rfl
  · kernel_rfl
  · kernel_rfl
  · kernel_rfl
  · kernel_rfl
  · kernel_rfl
  · kernel_rfl
  · exact heavy.1
  · exact heavy.2.1
  · exact heavy.2.2
  · kernel_rfl
  · kernel_rfl
  · kernel_rfl
  · kernel_rfl
theorem over : Rows.fnCallMoveRow.holds Try.pinned (OpenSpec.ofChange Rows.fnCallMoveSpec) :=
  OpenClaim.holds_of_wide 3 Try.f3 rfl rfl rfl rfl rfl rfl rfl ⟨rfl, rfl, rfl, rfl, rfl⟩ rfl rfl rfl rfl rfl (by kernel_rfl) Try.func3 closed
    (of_decide_eq_true (by kernel_rfl)) (by unfold Func.isWrapper; first | (rw [if_pos (by decide +kernel)]; kernel_rfl) | (rw [if_neg (by decide +kernel)]; exact ⟨rfl, rfl⟩))
    (fun os started H enc _ => lifted os started H enc)
theorem proved : Rows.FnCallMoveSaid := over
#print axioms proved
end Go.Proofs.Ytcickfahpcmcdaa.callMove
