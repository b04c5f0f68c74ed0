/- FnFrameOk returns true for every code. No condition. -/
import Derived.Test.YthfjlellaojdmaaFrame
import Derived.Test.YthfjlellaojdmaaPerm
import Derived.Test.Ythfjlellaojdmaa5z
import Derived.Test.Ythfjlellaojdmaa5s
import Derived.Test.Ythfjlellaojdmaa5o2
import Derived.Test.Ythfjlellaojdmaa5yf
namespace Go.Proofs.Ythfjlellaojdmaa.frameOk
open Go.ChangeShapes Go.WideShapes Go.ChangeAt Go.RowKit
set_option linter.unusedSimpArgs false
set_option linter.unusedVariables false
set_option maxHeartbeats 4000000 in
set_option maxRecDepth 100000 in
theorem walk (A : Option Addr) (n c : Nat) (zs : List Int) (w : World) (f : RdL (Value.int .u8) w A n zs ∧ n ≤ c ∧ c ≤ maxLen ∧ ∀ z ∈ zs, (Lit.int .u8 z).wf = true) :
    Calls Try.prog 3 #[.slice A n c] w fun e w' => e = .returned (.bool true) ∧ Below w.heap.size w w' := by
  obtain ⟨hx, hc, hm, hz⟩ := f
  have HZ := Lib.hid (bytes_wf hz)
  clear hz
  by_cases hn : n ≤ 1048576
  · go_enter Try.func3, Try.ntmps3
    go_wp2_with fail
    refine (DrawFrameOk_any A n c zs w hx HZ.out hc hn).mono ?_
    rintro x w1 ⟨A1, n1, c1, t, A2, p, c2, fr, rfl, hT, hc1, hsm, hF, hc2, hsf, b1⟩
    have HL := hT.len
    have HLF := hF.len
    have HSM := Lib.hid hsm; clear hsm
    have HSF := Lib.hid hsf; clear hsf
    go_wp2_with fail
    refine (impl_FrameOk A1 n1 c1 t A2 p c2 fr w1 hT hF hc1 hc2 HSM.out HSF.out).mono ?_
    rintro x w2 ⟨v, rfl, HV, b2⟩
    have B2 := bstep b1 b2
    have hT2 := hT.below b2 (Nat.le_refl _)
    have hF2 := hF.below b2 (Nat.le_refl _)
    clear hT hF b1 b2
    go_wp2_with fail
    refine (spec_FrameOk A1 n1 c1 t A2 p c2 fr w2 hT2 hF2 hc1 hc2 HSM.out HSF.out).mono ?_
    rintro x w3 ⟨v', rfl, HV', b3⟩
    have B3 := bstep B2 b3
    have hT3 := hT2.below b3 (Nat.le_refl _)
    have hF3 := hF2.below b3 (Nat.le_refl _)
    clear hT2 hF2 B2 b3
    by_cases hOK : FrOk t fr
    · have hv : v = true := HV.out.2 hOK
      have hv' : v' = true := HV'.out.2 hOK
      subst hv hv'
      have hTO := hOK.1
      have hFO := hOK.2
      have h6 : n1 ≤ 6 := by rw [← HL.out]; exact hTO.six
      have h36 : p ≤ 36 := by rw [← HLF.out]; exact hFO.1
      have HLL : Hid (leftL t fr = tabF n1 (leftF (fOf t) fr)) := by show _ = _; rw [leftL_yes hTO, HL.out]
      obtain ⟨M, HM⟩ : ∃ M, Hid (lineL t = M) := ⟨_, rfl⟩
      have hMM : mostF n1 (fOf t) = M := by rw [← HM.out, lineL_yes hTO, HL.out]
      obtain ⟨V, HVL⟩ : ∃ V, Hid (sendsL fr = V) := ⟨_, rfl⟩
      obtain ⟨T, HT⟩ : ∃ V, Hid (allL t = V) := ⟨_, rfl⟩
      have hTT : allS n1 (fOf t) = T := by rw [← HT.out, allL_yes hTO, HL.out]
      have hTb : 0 ≤ T ∧ T ≤ 216 := by rw [← HT.out, allL_yes hTO]; exact allS_bd hTO.six hTO.bd6
      have hSO : ∀ r ∈ fr, SlotOk n1 r := by have := hFO.2.1; rwa [HL.out] at this
      have hcle : ∀ i j, i < n1 → j < n1 → cnt fr i j ≤ fOf t i j := by have := hFO.2.2; rwa [HL.out] at this
      have HGB : Hid (∀ i j, i < n1 → j < n1 → 0 ≤ leftF (fOf t) fr i j ∧ leftF (fOf t) fr i j ≤ 6) := fun i j hi hj => by
        have h1 := hcle i j hi hj
        have h2 := cnt_nonneg fr i j
        have h3 := hTO.bd i j
        unfold leftF
        omega
      have HQ : Hid (allS n1 (leftF (fOf t) fr) + V = T ∧ (allS n1 (leftF (fOf t) fr) ≤ 0 → M ≤ p)) := by
        refine ⟨?_, fun h => ?_⟩
        · rw [← HVL.out, ← hTT]; exact frame_all hSO
        · rw [← hMM, ← HLF.out]; exact frame_long hSO (frame_none hcle h)
      have hV0 : 0 ≤ V := by rw [← HVL.out]; exact sendsL_nonneg fr
      clear hMM hTT hSO hcle hTO hFO hOK
      obtain ⟨hT0, hT1⟩ := hTb
      obtain ⟨G, hG⟩ : ∃ G, leftF (fOf t) fr = G := ⟨_, rfl⟩
      rw [hG] at HLL HGB HQ
      clear hG
      go_wp2_with fail
      refine (impl_FrameLeft A1 n1 c1 t A2 p c2 fr w3 hT3 hF3 hc1 hc2 HSM.out HSF.out).mono ?_
      rintro x w4 ⟨A4, n4, c4, rfl, hZ, b4⟩
      rw [HLL.out] at hZ
      have hn4 : n4 = n1 := by rw [← hZ.len.out]; exact tabF_len _ _
      subst hn4
      have hZR := hZ.rd
      have B4 := bstep B3 b4
      have hT4 := hT3.below b4 (Nat.le_refl _)
      have hF4 := hF3.below b4 (Nat.le_refl _)
      clear hZ hT3 hF3 B3 b4 HLL
      go_wp2
      go_loopg [7, 8] n4 (fun g s i wr => ∃ (k m : Nat) (S : Int), k ≤ n4 ∧ g = n4 - k ∧ i = .int .i64 k ∧ s = .int .i64 S ∧ Hid (S = sumN (rowS n4 G) k) ∧ 0 ≤ S ∧ S ≤ 6000 * (k : Int) ∧ wr = w4.drewN m)
      case atStart => exact ⟨0, 0, 0, Nat.zero_le _, rfl, rfl, rfl, rfl, by omega, by omega, rfl⟩
      case round =>
        obtain ⟨k, m, S, hk, rfl, rfl, rfl, HSS, hS0, hS1, rfl⟩ := hrel
        by_cases hlt : k < n4
        · obtain ⟨b, off, Ak, ck, rfl, hc9, hr, hnc⟩ := hZR.atF hlt
          have hRb : 0 ≤ rowS n4 G k := sumN_nonneg fun j hj => (HGB.out k j hlt hj).1
          have hRb2 : rowS n4 G k ≤ 6000 := (rowS_bd (F := G) (fun i j hi hj => by have := HGB.out i j hi hj; omega) h6 hlt).2
          go_wp2_with fail
          refine (sumOf_any Ak n4 ck (G k) _ (hr.drewN _) h6 (fun j hj => by have := HGB.out k j hlt hj; omega)).mono ?_
          rintro x w5 ⟨rfl, m5, rfl⟩
          have HST : Hid (S + rowS n4 G k = sumN (rowS n4 G) (k + 1)) := by show _ = _; rw [sumN_step, ← HSS.out]
          obtain ⟨R, HR⟩ : ∃ R, Hid (rowS n4 G k = R) := ⟨_, rfl⟩
          have hRR : sumN (G k) n4 = R := HR.out
          rw [HR.out] at hRb hRb2 HST
          rw [hRR]
          clear hRR
          go_wp2
          go_roundg (n4 - (k + 1))
          case rel => exact ⟨k + 1, m + m5, S + R, by omega, rfl, by go_num, rfl, HST, by omega, by omega, by simp⟩
          case measure => omega
        · obtain rfl : k = n4 := by omega
          have HSA : Hid (S + V = T ∧ (S ≤ 0 → M ≤ p)) := by have := HQ.out; have e : S = allS k G := HSS.out; rw [e]; exact this
          have hsv := HSA.out.1
          have hsw : IntKind.i64.wrap (S + V) = T := by rw [hsv]; exact IntWalk.i64_in _ (by omega)
          have htt : (T == T) = true := by simp
          clear hsv
          go_wp2_with fail
          refine (impl_FrameSends0 A2 p c2 fr _ (hF4.drewN _) HSF.out).mono ?_
          rintro x w5 ⟨rfl, m5, rfl⟩
          rw [HVL.out]
          go_wp2_with fail
          refine (impl_TrafficAll0 A1 k c1 t _ (hT4.drewN _) HSM.out).mono ?_
          rintro x w6 ⟨rfl, m6, rfl⟩
          rw [HT.out]
          by_cases hS : 0 < S
          · go_wp2
            go_ret
            exact ⟨rfl, below_drewN B4 _⟩
          · have hMp : M ≤ (p : Int) := HSA.out.2 (by omega)
            have hSz : decide (0 < S) = false := by simp; omega
            go_wp2_with fail
            refine (impl_LineMost A1 k c1 t _ (hT4.drewN _) HSM.out).mono ?_
            rintro x w7 ⟨rfl, m7, rfl⟩
            rw [HM.out]
            go_wp2
            go_ret
            exact ⟨rfl, below_drewN B4 _⟩
    · have hv : v = false := by
        cases v with
        | false => rfl
        | true => exact absurd (HV.out.1 rfl) hOK
      have hv' : v' = false := by
        cases v' with
        | false => rfl
        | true => exact absurd (HV'.out.1 rfl) hOK
      subst hv hv'
      go_wp2_with fail
      refine (alive_any _).mono ?_
      rintro x w4 ⟨rfl, b4⟩
      go_wp2
      go_ret
      exact ⟨rfl, bstep B3 b4⟩
  · go_enter Try.func3, Try.ntmps3
    go_wp2
    go_ret
    exact ⟨rfl, Below.refl _ _⟩
set_option maxRecDepth 100000 in
theorem lifted (os : Os) (started : os.Started) (H : Type) (enc : TypeId × Value → H) :
    ReturnsInHanded {} Try.checked os 3 .any (Rows.fnFrameOkSpec.pre6 enc Try.prog Try.f3 Rows.fnFrameOkRow.domain false) (Rows.fnFrameOkSpec.post enc Try.prog Try.f3 false true false false) := by
  refine returnsInHanded_of_change (C := Try.checked) own started (by kernel_rfl) Try.func3
    (ChangeSpec.witness6 (enc := enc) (C := Try.checked) false ⟨#[], #[.slice none 0 0], []⟩ 8 (by kernel_rfl) (by kernel_rfl) (by kernel_rfl) (by kernel_rfl)) ?_
  intro W base args ds gs before hval0 hW hcnd _
  have hval : ∀ (j : Nat) t v, Try.f3.params[j]? = some t → args[j]? = some v → Value.okWide Try.prog W .any base t v := hval0
  have hW' := hW
  obtain ⟨p, q, hA0, hV, rfl, hfz, hnd⟩ := hW
  have hA : DataW.TrodAll enc Try.prog W 0 (fun _ => true) true Try.f3.params.toList args.toList ds p := hA0
  rw [Try.params3] at hA hval
  obtain ⟨v0, vs0, d0, ds0, p0, q0, hargs, rfl, rfl, k0, r0⟩ := trodAll_cons hA
  obtain ⟨rfl, rfl, rfl⟩ := trodAll_nil r0
  obtain rfl : args = #[v0] := by cases args; simp_all
  obtain ⟨rfl, rfl⟩ := trodVars_none hV
  have lt0 : ∀ x ∈ p0, x.block < W.heap.size := by obtain ⟨m, hm⟩ := k0; exact DataW.trod_lt m _ _ _ hm
  obtain ⟨a0, n0, c0, rfl⟩ := okWide_slice Try.underlying22 (hval 0 22 v0 rfl rfl)
  obtain ⟨z0, f0⟩ := open_bytes (W := W) k0
  clear hA0 hval0
  refine (walk a0 n0 c0 z0 W f0).mono fun e W' ⟨he, bel⟩ => ?_
  subst he
  exact ⟨_, rfl, _, _, _, [], _, [], hW', trodAll_mk1 (shut_bool Try.underlying4 _), (trodAll_cons_mk (Below.trod laidOut (by kernel_rfl) (of_decide_eq_true (by kernel_rfl)) k0 bel lt0) trodAll_mk0), rfl, bel.frame _, fun h => by cases h⟩
theorem closed : joinedFacts Try.pinned.checked.prog 3 Try.f3 Rows.fnFrameOkSpec Rows.fnFrameOkRow = true := by
  unfold joinedFacts
  repeat' (with_reducible refine Bool.and_eq_true_iff.2 ⟨?_, ?_⟩)
  · kernel_rfl
  · exact laidOut
  · kernel_rfl
  · kernel_rfl
  · kernel_rfl
  · kernel_rfl
  · kernel_rfl
  · kernel_rfl
  · kernel_rfl
  · kernel_rfl
  · kernel_rfl
  · kernel_rfl
  · kernel_rfl
  · kernel_rfl
  · kernel_rfl
  · kernel_rfl
  · kernel_rfl
  · kernel_rfl
  · kernel_rfl
  · kernel_rfl
  · kernel_rfl
  · kernel_rfl
  · kernel_rfl
  · kernel_rfl
  · kernel_rfl
  · exact heavy.1
  · exact heavy.2.1
  · exact heavy.2.2
  · kernel_rfl
  · kernel_rfl
  · kernel_rfl
  · kernel_rfl
theorem over : Rows.fnFrameOkRow.holds Try.pinned (OpenSpec.ofChange Rows.fnFrameOkSpec) :=
  OpenClaim.holds_of_wide 3 Try.f3 rfl rfl rfl rfl rfl rfl rfl ⟨rfl, rfl, rfl, rfl, rfl⟩ rfl rfl rfl rfl rfl (by kernel_rfl) Try.func3 closed
    (of_decide_eq_true (by kernel_rfl)) (by unfold Func.isWrapper; first | (rw [if_pos (by decide +kernel)]; kernel_rfl) | (rw [if_neg (by decide +kernel)]; exact ⟨rfl, rfl⟩))
    (fun os started H enc _ => lifted os started H enc)
theorem proved : Rows.FnFrameOkSaid := over
#print axioms proved
end Go.Proofs.Ythfjlellaojdmaa.frameOk
