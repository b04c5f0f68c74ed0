/- FnFrameBest returns true for every code. No condition. -/
import Derived.Test.YthfjlellaojdmaaFrame
import Derived.Test.YthfjlellaojdmaaPerm
import Derived.Test.Ythfjlellaojdmaa5z
import Derived.Test.Ythfjlellaojdmaa5s
import Derived.Test.Ythfjlellaojdmaa5o2
namespace Go.Proofs.Ythfjlellaojdmaa.frameBest
open Go.ChangeShapes Go.WideShapes Go.ChangeAt Go.RowKit
set_option linter.unusedSimpArgs false
set_option linter.unusedVariables false
set_option maxHeartbeats 4000000 in
set_option maxRecDepth 100000 in
theorem walk (A : Option Addr) (n c : Nat) (zs : List Int) (w : World) (f : RdL (Value.int .u8) w A n zs ∧ n ≤ c ∧ c ≤ maxLen ∧ ∀ z ∈ zs, (Lit.int .u8 z).wf = true) :
    Calls Try.prog 4 #[.slice A n c] w fun e w' => e = .returned (.bool true) ∧ Below w.heap.size w w' := by
  obtain ⟨hx, hc, hm, hz⟩ := f
  have HZ := Lib.hid (bytes_wf hz)
  clear hz
  by_cases hn : n ≤ 1048576
  · go_enter Try.func4, Try.ntmps4
    go_wp2_with fail
    refine (DrawFrameBest_any A n c zs w hx HZ.out hc hn).mono ?_
    rintro x w1 ⟨A1, n1, c1, t, rfl, hT, hc1, hsm, b1⟩
    have HL := hT.len
    have HSM := Lib.hid hsm; clear hsm

    go_wp2_with fail
    refine (impl_FrameBest A1 n1 c1 t w1 hT hc1 HSM.out).mono ?_
    rintro x w2 ⟨A2, n2, c2, rfl, hX, b2⟩
    have B2 := bstep b1 b2
    have HL2 := hX.len
    have HS2 : Hid (SmT (bestL t)) := best_sm HSM.out
    go_wp2_with fail
    refine (spec_FrameBest A1 n1 c1 t w2 (hT.below b2 (Nat.le_refl _)) hc1 HSM.out).mono ?_
    rintro x w3 ⟨A3, n3, c3, rfl, hY, b3⟩
    have B3 := bstep B2 b3
    have hX3 := hX.below b3 (Nat.le_refl _)
    have hT3 := hT.below (bstep b2 b3) (Nat.le_refl _)
    go_wp2_with fail
    refine (retB_is (b := true) ⟨fun _ => rfl, fun _ => rfl⟩ (sameLists_any A2 A3 n2 n3 c2 c3 _ _ w3 hX3.rd hY.rd HS2.out HS2.out)).mono ?_
    rintro x w4 ⟨rfl, m4, rfl⟩
    have hX4 := hX3.rd.drewN m4
    have hT4 := hT3.drewN m4
    have B4 := below_drewN B3 m4
    have hc2 := hX.cap.1
    clear hX hY hX3 hT3 b2 b3 B2 B3 hT b1
    obtain ⟨W, hW⟩ : ∃ W, w3.drewN m4 = W := ⟨_, rfl⟩
    rw [hW] at hX4 hT4 B4 ⊢
    clear hW
    by_cases hTO : TrafOk t
    · have HTO := Lib.hid hTO
      go_wp2_with fail
      refine (retB_is (b := true) ⟨fun _ => HTO.out, fun _ => rfl⟩ (spec_TrafficValid A1 n1 c1 t _ hT4 HSM.out)).mono ?_
      rintro x w5 ⟨rfl, m5, rfl⟩
      have h6 : n1 ≤ 6 := by rw [← HL.out]; exact hTO.six
      obtain ⟨M, HM⟩ : ∃ M, Hid (lineL t = M) := ⟨_, rfl⟩
      have hMb : 0 ≤ M ∧ M ≤ 36 := by rw [← HM.out, lineL_yes hTO]; exact most_bd hTO.six hTO.f
      obtain ⟨hM0, hM1⟩ := hMb
      have hMM : mostF t.length (fOf t) = M := by rw [← lineL_yes hTO]; exact HM.out
      have hnM : (n2 : Int) = M := by rw [← HL2.out, bestL_yes hTO, bFr_len, hMM]; omega
      have hBO := best_ok (f := fOf t) (n := t.length) (fun i j _ _ => (hTO.bd i j).1) (S := n2) (by rw [hMM]; exact hnM) (by omega)
      have hBL : bestL t = bFr t.length (fOf t) n2 := by rw [bestL_yes hTO, hMM, ← hnM]; rfl
      have HFO : Hid (FrOk t (bestL t)) := ⟨hTO, by rw [hBL]; exact hBO.1⟩
      have HLF : Hid (leftL t (bestL t) = tabF n1 (fun _ _ => 0)) := by
        show _ = _
        rw [leftL_yes hTO, hBL, ← HL.out]
        exact tabF_congr fun i j hi hj => hBO.2 i j hi hj
      clear hMM hBO hBL hTO
      have heq : ((n2 : Int) == M) = true := by simp [hnM]
      have hT5 := hT4.drewN m5
      have hX5 := hX4.drewN m5
      have B5 := below_drewN B4 m5
      clear hT4 hX4 B4
      obtain ⟨W5, hW5⟩ : ∃ V, W.drewN m5 = V := ⟨_, rfl⟩
      rw [hW5] at hT5 hX5 B5 ⊢
      clear hW5
      go_wp2_with fail
      refine (impl_FrameLeft A1 n1 c1 t A2 n2 c2 (bestL t) W5 hT5 hX5 hc1 hc2 HSM.out HS2.out).mono ?_
      rintro x W6 ⟨A3, n3, c3, rfl, hZ, b6⟩
      rw [HLF.out] at hZ
      have hn3 : n3 = n1 := by rw [← hZ.len.out]; exact tabF_len _ _
      subst hn3
      have hZR := hZ.rd
      have hT6 := hT5.below b6 (Nat.le_refl _)
      have hX6 := hX5.below b6 (Nat.le_refl _)
      have B6 := bstep B5 b6
      clear hZ hT5 hX5 b6 B5 HLF
      go_wp2
      go_loopg [6, 7] n3 (fun g i j wr => ∃ k m : Nat, k ≤ n3 ∧ g = n3 - k ∧ i = .int .i64 k ∧ wr = W6.drewN m)
      case atStart => exact ⟨0, 0, Nat.zero_le _, rfl, rfl, rfl⟩
      case round =>
        obtain ⟨k, m, hk, rfl, rfl, rfl⟩ := hrel
        by_cases hlt : k < n3
        · obtain ⟨b, off, Ak, ck, rfl, hc, hr, hnc⟩ := hZR.atF hlt
          go_wp2
          go_loopg [7] n3 (fun g j wr => ∃ q m : Nat, q ≤ n3 ∧ g = n3 - q ∧ j = .int .i64 q ∧ wr = W6.drewN m)
          case atStart => exact ⟨0, m, Nat.zero_le _, rfl, rfl, rfl⟩
          case round =>
            obtain ⟨q, m, hq, rfl, rfl, rfl⟩ := hrel
            by_cases hql : q < n3
            · obtain ⟨b2, off2, x, rfl, HX, hcx⟩ := hr.atF hql
              have hx0 : x = 0 := HX.out.symm
              subst hx0
              go_wp2
              go_roundg (n3 - (q + 1))
              case rel => exact ⟨q + 1, m, by omega, rfl, by go_num, rfl⟩
              case measure => omega
            · go_wp2
              go_roundg (n3 - (k + 1))
              case rel => exact ⟨k + 1, m, by omega, rfl, by go_num, rfl⟩
              case measure => omega
        · go_wp2_with fail
          refine (impl_FrameOk A1 n3 c1 t A2 n2 c2 (bestL t) _ (hT6.drewN _) (hX6.drewN _) hc1 hc2 HSM.out HS2.out).mono ?_
          rintro x w7 ⟨v, rfl, HV, b7⟩
          obtain rfl : v = true := HV.out.2 HFO.out
          have hT7 := (hT6.drewN m).below b7 (Nat.le_refl _)
          have B7 := bstep (below_drewN B6 m) b7
          go_wp2_with fail
          refine (impl_LineMost A1 n3 c1 t _ hT7 HSM.out).mono ?_
          rintro x w8 ⟨rfl, m8, rfl⟩
          rw [HM.out]
          go_wp2
          go_ret
          exact ⟨rfl, below_drewN B7 _⟩
    · have HTO := Lib.hid hTO
      have hn2 : n2 = 0 := by rw [← HL2.out, bestL_no hTO]; rfl
      subst hn2
      go_wp2_with fail
      refine (retB_is (b := false) ⟨fun h => by simp at h, fun h => absurd h HTO.out⟩ (spec_TrafficValid A1 n1 c1 t _ hT4 HSM.out)).mono ?_
      rintro x w5 ⟨rfl, m5, rfl⟩
      go_wp2_with fail
      refine (alive_any _).mono ?_
      rintro x w6 ⟨rfl, b6⟩
      go_wp2
      go_ret
      exact ⟨rfl, bstep (below_drewN B4 _) b6⟩
  · go_enter Try.func4, Try.ntmps4
    go_wp2
    go_ret
    exact ⟨rfl, Below.refl _ _⟩
set_option maxRecDepth 100000 in
theorem lifted (os : Os) (started : os.Started) (H : Type) (enc : TypeId × Value → H) :
    ReturnsInHanded {} Try.checked os 4 .any (Rows.fnFrameBestSpec.pre6 enc Try.prog Try.f4 Rows.fnFrameBestRow.domain false) (Rows.fnFrameBestSpec.post enc Try.prog Try.f4 false true false false) := by
  refine returnsInHanded_of_change (C := Try.checked) own started (by kernel_rfl) Try.func4
    (ChangeSpec.witness6 (enc := enc) (C := Try.checked) false ⟨#[], #[.slice none 0 0], []⟩ 8 (by kernel_rfl) (by kernel_rfl) (by kernel_rfl) (by kernel_rfl)) ?_
  intro W base args ds gs before hval0 hW hcnd _
  have hval : ∀ (j : Nat) t v, Try.f4.params[j]? = some t → args[j]? = some v → Value.okWide Try.prog W .any base t v := hval0
  have hW' := hW
  obtain ⟨p, q, hA0, hV, rfl, hfz, hnd⟩ := hW
  have hA : DataW.TrodAll enc Try.prog W 0 (fun _ => true) true Try.f4.params.toList args.toList ds p := hA0
  rw [Try.params4] at hA hval
  obtain ⟨v0, vs0, d0, ds0, p0, q0, hargs, rfl, rfl, k0, r0⟩ := trodAll_cons hA
  obtain ⟨rfl, rfl, rfl⟩ := trodAll_nil r0
  obtain rfl : args = #[v0] := by cases args; simp_all
  obtain ⟨rfl, rfl⟩ := trodVars_none hV
  have lt0 : ∀ x ∈ p0, x.block < W.heap.size := by obtain ⟨m, hm⟩ := k0; exact DataW.trod_lt m _ _ _ hm
  obtain ⟨a0, n0, c0, rfl⟩ := okWide_slice Try.underlying22 (hval 0 22 v0 rfl rfl)
  obtain ⟨z0, f0⟩ := open_bytes (W := W) k0
  clear hA0 hval0
  refine (walk a0 n0 c0 z0 W f0).mono fun e W' ⟨he, bel⟩ => ?_
  subst he
  exact ⟨_, rfl, _, _, _, [], _, [], hW', trodAll_mk1 (shut_bool Try.underlying4 _), (trodAll_cons_mk (Below.trod laidOut (by kernel_rfl) (of_decide_eq_true (by kernel_rfl)) k0 bel lt0) trodAll_mk0), rfl, bel.frame _, fun h => by cases h⟩
theorem closed : joinedFacts Try.pinned.checked.prog 4 Try.f4 Rows.fnFrameBestSpec Rows.fnFrameBestRow = true := by
  unfold joinedFacts
  repeat' (with_reducible refine Bool.and_eq_true_iff.2 ⟨?_, ?_⟩)
  · kernel_rfl
  · exact laidOut
  · kernel_rfl
  · kernel_rfl
  · kernel_rfl
  · kernel_rfl
  · kernel_rfl
  · kernel_rfl
  · kernel_rfl
  · kernel_rfl
  · kernel_rfl
  · kernel_rfl
  · kernel_rfl
  · kernel_rfl
  · kernel_rfl
  · kernel_rfl
  · kernel_rfl
  · kernel_rfl
  · kernel_rfl
  · kernel_rfl
  · kernel_rfl
  · kernel_rfl
  · kernel_rfl
  · kernel_rfl
  · kernel_rfl
  · exact heavy.1
  · exact heavy.2.1
  · exact heavy.2.2
  · kernel_rfl
  · kernel_rfl
  · kernel_rfl
  · kernel_rfl
theorem over : Rows.fnFrameBestRow.holds Try.pinned (OpenSpec.ofChange Rows.fnFrameBestSpec) :=
  OpenClaim.holds_of_wide 4 Try.f4 rfl rfl rfl rfl rfl rfl rfl ⟨rfl, rfl, rfl, rfl, rfl⟩ rfl rfl rfl rfl rfl (by kernel_rfl) Try.func4 closed
    (of_decide_eq_true (by kernel_rfl)) (by unfold Func.isWrapper; first | (rw [if_pos (by decide +kernel)]; kernel_rfl) | (rw [if_neg (by decide +kernel)]; exact ⟨rfl, rfl⟩))
    (fun os started H enc _ => lifted os started H enc)
theorem proved : Rows.FnFrameBestSaid := over
#print axioms proved
end Go.Proofs.Ythfjlellaojdmaa.frameBest
