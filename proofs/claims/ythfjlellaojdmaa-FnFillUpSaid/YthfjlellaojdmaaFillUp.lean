/- FnFillUp returns true for every code. No condition. -/
import Derived.Test.YthfjlellaojdmaaFrame
import Derived.Test.YthfjlellaojdmaaPerm
import Derived.Test.Ythfjlellaojdmaa5z
import Derived.Test.Ythfjlellaojdmaa5s
import Derived.Test.Ythfjlellaojdmaa5o2
namespace Go.Proofs.Ythfjlellaojdmaa.fillUp
open Go.ChangeShapes Go.WideShapes Go.ChangeAt Go.RowKit
set_option linter.unusedSimpArgs false
set_option linter.unusedVariables false
set_option maxHeartbeats 4000000 in
set_option maxRecDepth 100000 in
theorem walk (A : Option Addr) (n c : Nat) (zs : List Int) (w : World) (f : RdL (Value.int .u8) w A n zs ∧ n ≤ c ∧ c ≤ maxLen ∧ ∀ z ∈ zs, (Lit.int .u8 z).wf = true) :
    Calls Try.prog 6 #[.slice A n c] w fun e w' => e = .returned (.bool true) ∧ Below w.heap.size w w' := by
  obtain ⟨hx, hc, hm, hz⟩ := f
  have HZ := Lib.hid (bytes_wf hz)
  clear hz
  by_cases hn : n ≤ 1048576
  · go_enter Try.func6, Try.ntmps6
    go_wp2_with fail
    refine (DrawFillUp_any A n c zs w hx HZ.out hc hn).mono ?_
    rintro x w1 ⟨A1, n1, c1, t, rfl, hT, hc1, hsm, b1⟩
    have HL := hT.len
    have HSM := Lib.hid hsm; clear hsm

    go_wp2_with fail
    refine (impl_FillUp A1 n1 c1 t w1 hT hc1 HSM.out).mono ?_
    rintro x w2 ⟨A2, n2, c2, rfl, hX, b2⟩
    have B2 := bstep b1 b2
    have HL2 := hX.len
    have HS2 : Hid (SmT (fillL t)) := fill_sm HSM.out
    go_wp2_with fail
    refine (spec_FillUp A1 n1 c1 t w2 (hT.below b2 (Nat.le_refl _)) hc1 HSM.out).mono ?_
    rintro x w3 ⟨A3, n3, c3, rfl, hY, b3⟩
    have B3 := bstep B2 b3
    have hX3 := hX.below b3 (Nat.le_refl _)
    have hT3 := hT.below (bstep b2 b3) (Nat.le_refl _)
    go_wp2_with fail
    refine (retB_is (b := true) ⟨fun _ => rfl, fun _ => rfl⟩ (sameLists_any A2 A3 n2 n3 c2 c3 _ _ w3 hX3.rd hY.rd HS2.out HS2.out)).mono ?_
    rintro x w4 ⟨rfl, m4, rfl⟩
    have hX4 := hX3.rd.drewN m4
    have hT4 := hT3.drewN m4
    have B4 := below_drewN B3 m4
    have hc2 := hX.cap.1
    clear hX hY hX3 hT3 b2 b3 B2 B3 hT b1
    obtain ⟨W, hW⟩ : ∃ W, w3.drewN m4 = W := ⟨_, rfl⟩
    rw [hW] at hX4 hT4 B4 ⊢
    clear hW
    by_cases hTO : TrafOk t
    · have HTO := Lib.hid hTO
      go_wp2_with fail
      refine (retB_is (b := true) ⟨fun _ => HTO.out, fun _ => rfl⟩ (spec_TrafficValid A1 n1 c1 t _ hT4 HSM.out)).mono ?_
      rintro x w5 ⟨rfl, m5, rfl⟩
      have h6 : n1 ≤ 6 := by rw [← HL.out]; exact hTO.six
      have hn2 : n2 = n1 := by rw [← HL2.out, fillL_yes hTO, tabF_len]; exact HL.out
      subst hn2
      obtain ⟨M, HM⟩ : ∃ M, Hid (lineL t = M) := ⟨_, rfl⟩
      have hMb : 0 ≤ M ∧ M ≤ 36 := by rw [← HM.out, lineL_yes hTO]; exact most_bd hTO.six hTO.f
      obtain ⟨hM0, hM1⟩ := hMb
      have hT4F : RdT W A1 n2 (tabF n2 (fOf t)) := by have := hTO.tab; rw [HL.out] at this; rw [← this]; exact hT4
      have hX4F : RdT W A2 n2 (tabF n2 (fillF n2 (fOf t))) := by have := fillL_yes hTO; rw [HL.out] at this; rw [← this]; exact hX4
      have HFI := Lib.hid (fill_ok n2 (fOf t))
      have HFN : Hid (allS n2 (fillF n2 (fOf t)) = 0 ↔ EvenL t) := by
        show _ ↔ _
        rw [fill_none (fun i j _ _ => (hTO.bd i j).1)]
        unfold EvenL
        rw [HL.out]
        exact ⟨fun h => ⟨hTO, h⟩, fun h => h.2⟩
      have hMM : mostF n2 (fOf t) = M := by rw [← HM.out, lineL_yes hTO, HL.out]
      have HB0 : Hid (∀ i j, 0 ≤ fOf t i j ∧ fOf t i j ≤ 6) := fun i j => hTO.bd i j
      rw [hMM] at HFI
      have HRT : Hid (∀ k, k < n2 → (0 ≤ rowS n2 (fOf t) k ∧ rowS n2 (fOf t) k ≤ M) ∧ 0 ≤ colS n2 (fOf t) k ∧ colS n2 (fOf t) k ≤ M) := fun k hk => by
        rw [← hMM]; exact ⟨rowS_traf HB0.out hk, colS_traf HB0.out hk⟩
      clear hMM hTO
      obtain ⟨F, hF⟩ : ∃ F, fOf t = F := ⟨_, rfl⟩
      rw [hF] at hT4F hX4F HFI HFN HB0 HRT
      clear hF
      obtain ⟨Y, hY⟩ : ∃ Y, fillF n2 F = Y := ⟨_, rfl⟩
      rw [hY] at hX4F HFI HFN
      clear hY
      have HYB : Hid (∀ i j, i < n2 → j < n2 → 0 ≤ Y i j ∧ Y i j ≤ 36) := fun i j hi hj => by
        refine ⟨HFI.out.2 i j hi hj, ?_⟩
        have e1 := (HFI.out.1 i hi).1
        have e2 := (HRT.out i hi).1.1
        have e3 : Y i j ≤ rowS n2 Y i := sumN_ge (fun a ha => HFI.out.2 i a hi ha) hj
        omega
      have hTx := hT4F.drewN m5
      have hXx := hX4F.drewN m5
      have hT5 := hT4.drewN m5
      have B5 := below_drewN B4 m5
      clear hT4 hX4 B4 hT4F hX4F
      obtain ⟨W5, hW5⟩ : ∃ V, W.drewN m5 = V := ⟨_, rfl⟩
      rw [hW5] at hT5 hTx hXx B5 ⊢
      clear hW5
      go_wp2_with fail
      refine (impl_LineMost A1 n2 c1 t _ hT5 HSM.out).mono ?_
      rintro x w6 ⟨rfl, m6, rfl⟩
      rw [HM.out]
      have hMne : (M != M) = false := by simp
      go_wp2
      go_loopg [6, 7, 8] n2 (fun g s i j wr => ∃ (k m : Nat) (S : Int), k ≤ n2 ∧ g = n2 - k ∧ i = .int .i64 k ∧ s = .int .i64 S ∧ Hid (S = sumN (rowS n2 Y) k) ∧ 0 ≤ S ∧ S ≤ 216 * (k : Int) ∧ wr = W5.drewN m)
      case atStart => exact ⟨0, m6, 0, Nat.zero_le _, rfl, rfl, rfl, rfl, by omega, by omega, rfl⟩
      case round =>
        obtain ⟨k, m, S, hk, rfl, rfl, rfl, HSS, hS0, hS1, rfl⟩ := hrel
        by_cases hlt : k < n2
        · obtain ⟨b, off, Ak, ck, hA1, hc, hr, hnc⟩ := hTx.atF hlt
          obtain ⟨b2, off2, Ak2, ck2, hA2, hc2', hr2, hnc2⟩ := hXx.atF hlt
          have k1 : ∀ q, Calls Try.prog 15 #[.slice Ak n2 ck] (W5.drewN (m + q)) fun e w' => e = .returned (.int .i64 (rowS n2 F k)) ∧ ∃ m', w' = (W5.drewN (m + q)).drewN m' := fun q => sumOf_any Ak n2 ck (F k) _ (hr.drewN _) h6 (fun j hj => by have := HB0.out k j; omega)
          have k2 : ∀ q, Calls Try.prog 15 #[.slice Ak2 n2 ck2] (W5.drewN (m + q)) fun e w' => e = .returned (.int .i64 (rowS n2 Y k)) ∧ ∃ m', w' = (W5.drewN (m + q)).drewN m' := fun q => sumOf_any Ak2 n2 ck2 (Y k) _ (hr2.drewN _) h6 (fun j hj => by have := HYB.out k j hlt hj; omega)
          have k3 : ∀ q, Calls Try.prog 30 #[.slice A1 n2 c1, .int .i64 k] (W5.drewN (m + q)) fun e w' => e = .returned (.int .i64 (colS n2 F k)) ∧ ∃ m', w' = (W5.drewN (m + q)).drewN m' := fun q => columnOf_any A1 n2 c1 k F _ (hTx.drewN _) hlt h6 (fun i j hi hj => by have := HB0.out i j; omega)
          have k4 : ∀ q, Calls Try.prog 30 #[.slice A2 n2 c2, .int .i64 k] (W5.drewN (m + q)) fun e w' => e = .returned (.int .i64 (colS n2 Y k)) ∧ ∃ m', w' = (W5.drewN (m + q)).drewN m' := fun q => columnOf_any A2 n2 c2 k Y _ (hXx.drewN _) hlt h6 (fun i j hi hj => by have := HYB.out i j hi hj; omega)
          subst hA1 hA2
          obtain ⟨e1, e2⟩ := HFI.out.1 k hlt
          obtain ⟨⟨e3, e4⟩, e5, e6⟩ := HRT.out k hlt
          have HST : Hid (sumN (rowS n2 Y) (k + 1) = S + sumN (Y k) n2) := by show _ = _; rw [sumN_step, ← HSS.out]; rfl
          obtain ⟨R1, HR1⟩ : ∃ R, rowS n2 F k = R := ⟨_, rfl⟩
          obtain ⟨R2, HR2⟩ : ∃ R, rowS n2 Y k = R := ⟨_, rfl⟩
          obtain ⟨C1, HC1⟩ : ∃ R, colS n2 F k = R := ⟨_, rfl⟩
          obtain ⟨C2, HC2⟩ : ∃ R, colS n2 Y k = R := ⟨_, rfl⟩
          rw [HR1] at k1 e1 e3 e4
          rw [HR2] at k2 e1
          rw [HC1] at k3 e2 e5 e6
          rw [HC2] at k4 e2
          clear HR1 HR2 HC1 HC2
          have hw1 : IntKind.i64.wrap (R1 + R2) = M := by rw [e1]; exact IntWalk.i64_in _ (by omega)
          have hw2 : IntKind.i64.wrap (C1 + C2) = M := by rw [e2]; exact IntWalk.i64_in _ (by omega)
          have K1 := Lib.hid k1
          have K2 := Lib.hid k2
          have K3 := Lib.hid k3
          have K4 := Lib.hid k4
          clear k1 k2 k3 k4 e1 e2
          go_wp2
          go_quiet (first
            | (go_at_call 15; with_reducible exact quiet_add (K1.out _))
            | (go_at_call 15; with_reducible exact quiet_add (K2.out _))
            | (go_at_call 30; with_reducible exact quiet_add (K3.out _))
            | (go_at_call 30; with_reducible exact quiet_add (K4.out _)))
          clear hw1 hw2 K1 K2 K3 K4
          go_wp2
          go_loopg [6, 8] n2 (fun g s j wr => ∃ (q m : Nat) (S' : Int), q ≤ n2 ∧ g = n2 - q ∧ j = .int .i64 q ∧ s = .int .i64 S' ∧ Hid (S' = S + sumN (Y k) q) ∧ 0 ≤ S' ∧ S' ≤ 216 * (k : Int) + 36 * (q : Int) ∧ wr = W5.drewN m)
          case atStart => exact ⟨0, m + nq, S, Nat.zero_le _, rfl, rfl, rfl, (by show _ = _; simp [sumN]), by omega, by omega, by simp⟩
          case round =>
            obtain ⟨q, m, S', hq, rfl, rfl, rfl, HS3, hS2, hS3, rfl⟩ := hrel
            by_cases hql : q < n2
            · obtain ⟨b3, off3, x, rfl, HX, hcx⟩ := hr2.atF hql
              have hxb : 0 ≤ x ∧ x ≤ 36 := by rw [← HX.out]; exact HYB.out k q hlt hql
              obtain ⟨hx0, hx1⟩ := hxb
              go_wp2
              go_roundg (n2 - (q + 1))
              case rel => exact ⟨q + 1, m, S' + x, by omega, rfl, by go_num, rfl, (by show _ = _; rw [sumN_step, HS3.out, HX.out, Int.add_assoc]), by omega, by omega, rfl⟩
              case measure => omega
            · go_wp2
              go_roundg (n2 - (k + 1))
              case rel =>
                obtain rfl : q = n2 := by omega
                exact ⟨k + 1, m, S', by omega, rfl, by go_num, rfl, (by show _ = _; rw [HST.out]; exact HS3.out), by omega, by omega, rfl⟩
              case measure => omega
        · obtain rfl : k = n2 := by omega
          have hEV : S = 0 ↔ EvenL t := by rw [HSS.out]; exact HFN.out
          by_cases he : S = 0
          · have HE : Hid (EvenL t) := hEV.1 he
            clear hEV
            subst he
            go_wp2_with fail
            refine (retB_is (b := true) ⟨fun _ => HE.out, fun _ => rfl⟩ (impl_Even A1 k c1 t _ (hT5.drewN _) HSM.out)).mono ?_
            rintro x w7 ⟨rfl, m7, rfl⟩
            go_wp2
            go_ret
            exact ⟨rfl, below_drewN B5 _⟩
          · have HE : Hid (¬ EvenL t) := fun h => he (hEV.2 h)
            have hez : (S == 0) = false := by simp [he]
            clear hEV he
            go_wp2_with fail
            refine (retB_is (b := false) ⟨fun h => by simp at h, fun h => absurd h HE.out⟩ (impl_Even A1 k c1 t _ (hT5.drewN _) HSM.out)).mono ?_
            rintro x w7 ⟨rfl, m7, rfl⟩
            go_wp2
            go_ret
            exact ⟨rfl, below_drewN B5 _⟩
    · have HTO := Lib.hid hTO
      have hn2 : n2 = 0 := by rw [← HL2.out, fillL_no hTO]; rfl
      subst hn2
      go_wp2_with fail
      refine (retB_is (b := false) ⟨fun h => by simp at h, fun h => absurd h HTO.out⟩ (spec_TrafficValid A1 n1 c1 t _ hT4 HSM.out)).mono ?_
      rintro x w5 ⟨rfl, m5, rfl⟩
      go_wp2_with fail
      refine (alive_any _).mono ?_
      rintro x w6 ⟨rfl, b6⟩
      go_wp2
      go_ret
      exact ⟨rfl, bstep (below_drewN B4 _) b6⟩
  · go_enter Try.func6, Try.ntmps6
    go_wp2
    go_ret
    exact ⟨rfl, Below.refl _ _⟩
set_option maxRecDepth 100000 in
theorem lifted (os : Os) (started : os.Started) (H : Type) (enc : TypeId × Value → H) :
    ReturnsInHanded {} Try.checked os 6 .any (Rows.fnFillUpSpec.pre6 enc Try.prog Try.f6 Rows.fnFillUpRow.domain false) (Rows.fnFillUpSpec.post enc Try.prog Try.f6 false true false false) := by
  refine returnsInHanded_of_change (C := Try.checked) own started (by kernel_rfl) Try.func6
    (ChangeSpec.witness6 (enc := enc) (C := Try.checked) false ⟨#[], #[.slice none 0 0], []⟩ 8 (by kernel_rfl) (by kernel_rfl) (by kernel_rfl) (by kernel_rfl)) ?_
  intro W base args ds gs before hval0 hW hcnd _
  have hval : ∀ (j : Nat) t v, Try.f6.params[j]? = some t → args[j]? = some v → Value.okWide Try.prog W .any base t v := hval0
  have hW' := hW
  obtain ⟨p, q, hA0, hV, rfl, hfz, hnd⟩ := hW
  have hA : DataW.TrodAll enc Try.prog W 0 (fun _ => true) true Try.f6.params.toList args.toList ds p := hA0
  rw [Try.params6] at hA hval
  obtain ⟨v0, vs0, d0, ds0, p0, q0, hargs, rfl, rfl, k0, r0⟩ := trodAll_cons hA
  obtain ⟨rfl, rfl, rfl⟩ := trodAll_nil r0
  obtain rfl : args = #[v0] := by cases args; simp_all
  obtain ⟨rfl, rfl⟩ := trodVars_none hV
  have lt0 : ∀ x ∈ p0, x.block < W.heap.size := by obtain ⟨m, hm⟩ := k0; exact DataW.trod_lt m _ _ _ hm
  obtain ⟨a0, n0, c0, rfl⟩ := okWide_slice Try.underlying22 (hval 0 22 v0 rfl rfl)
  obtain ⟨z0, f0⟩ := open_bytes (W := W) k0
  clear hA0 hval0
  refine (walk a0 n0 c0 z0 W f0).mono fun e W' ⟨he, bel⟩ => ?_
  subst he
  exact ⟨_, rfl, _, _, _, [], _, [], hW', trodAll_mk1 (shut_bool Try.underlying4 _), (trodAll_cons_mk (Below.trod laidOut (by kernel_rfl) (of_decide_eq_true (by kernel_rfl)) k0 bel lt0) trodAll_mk0), rfl, bel.frame _, fun h => by cases h⟩
theorem closed : joinedFacts Try.pinned.checked.prog 6 Try.f6 Rows.fnFillUpSpec Rows.fnFillUpRow = true := by
  unfold joinedFacts
  repeat' (with_reducible refine Bool.and_eq_true_iff.2 ⟨?_, ?_⟩)
  · kernel_rfl
  · exact laidOut
  · kernel_rfl
  · kernel_rfl
  · kernel_rfl
  · kernel_rfl
  · kernel_rfl
  · kernel_rfl
  · kernel_rfl
  · kernel_rfl
  · kernel_rfl
  · kernel_rfl
  · kernel_rfl
  · kernel_rfl
  · kernel_rfl
  · kernel_rfl
  · kernel_rfl
  · kernel_rfl
  · kernel_rfl
  · kernel_rfl
  · kernel_rfl
  · kernel_rfl
  · kernel_rfl
  · kernel_rfl
  · kernel_rfl
  · exact heavy.1
  · exact heavy.2.1
  · exact heavy.2.2
  · kernel_rfl
  · kernel_rfl
  · kernel_rfl
  · kernel_rfl
theorem over : Rows.fnFillUpRow.holds Try.pinned (OpenSpec.ofChange Rows.fnFillUpSpec) :=
  OpenClaim.holds_of_wide 6 Try.f6 rfl rfl rfl rfl rfl rfl rfl ⟨rfl, rfl, rfl, rfl, rfl⟩ rfl rfl rfl rfl rfl (by kernel_rfl) Try.func6 closed
    (of_decide_eq_true (by kernel_rfl)) (by unfold Func.isWrapper; first | (rw [if_pos (by decide +kernel)]; kernel_rfl) | (rw [if_neg (by decide +kernel)]; exact ⟨rfl, rfl⟩))
    (fun os started H enc _ => lifted os started H enc)
theorem proved : Rows.FnFillUpSaid := over
#print axioms proved
end Go.Proofs.Ythfjlellaojdmaa.fillUp
