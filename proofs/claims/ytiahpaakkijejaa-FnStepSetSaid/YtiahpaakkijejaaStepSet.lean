/- FnStepSet returns true for every code. No condition. -/
import Derived.Test.YtiahpaakkijejaaFrame
import Derived.Test.Ytiahpaakkijejaa3q
import Derived.Test.Ytiahpaakkijejaa3sc
import Derived.Test.YtiahpaakkijejaaD3b
import Derived.Test.YtiahpaakkijejaaD3c
namespace Go.Proofs.Ytiahpaakkijejaa.stepSet
open Go.ChangeShapes Go.WideShapes Go.ChangeAt Go.RowKit
set_option linter.unusedSimpArgs false
set_option linter.unusedVariables false
set_option maxHeartbeats 800000 in
set_option maxRecDepth 100000 in
theorem walk (A : Option Addr) (n c : Nat) (zs : List Int) (w : World) (f : RdL (Value.int .u8) w A n zs ∧ n ≤ c ∧ c ≤ maxLen ∧ ∀ z ∈ zs, (Lit.int .u8 z).wf = true) :
    Calls Try.prog 13 #[.slice A n c] w fun e w' => e = .returned (.bool true) ∧ Below w.heap.size w w' := by
  obtain ⟨hx, hc, hm, hz⟩ := f
  have HZ := Lib.hid (bytes_wf hz)
  clear hz
  by_cases hn : n ≤ 1048576
  · go_enter Try.func13, Try.ntmps13
    go_wp2_with fail
    refine (DrawStepSet_any A n c zs w hx HZ.out hc hn).mono ?_
    rintro x w1 ⟨A1, n1, c1, xs, rfl, hn1, O1, b1⟩
    have hX := OwnL.rd O1
    have hcap := (OwnL.cap O1).1
    have HLX := hX.len
    clear O1
    go_wp2_with fail
    refine (impl_StepSet A1 n1 c1 xs w1 hX hcap (by omega)).mono ?_
    rintro x w2 ⟨A2, n2, c2, ys, t, rfl, HP, O2, b2⟩
    have B2 := bstep b1 b2
    have hX2 := hX.below b2 (Nat.le_refl _)
    have hY2 := OwnL.rd O2
    have HLY := hY2.len
    clear O2
    have hn2 : n2 ≤ 1048576 := by have h := ss_len xs (by rw [HLX.out]; omega); rw [HP.out] at h; rw [← HLY.out]; exact h
    go_wp2_with fail
    refine (spec_StepSet A1 n1 c1 xs _ hX2 hcap (by omega)).mono ?_
    rintro x w3 ⟨A3, n3, c3, ys3, t3, rfl, HQ, O3, b3⟩
    have HE : Hid (ys3 = ys ∧ t3 = t) := by
      have h := HQ.out
      rw [HP.out] at h
      injection h with h1 h2
      exact ⟨h1.symm, h2.symm⟩
    clear HQ
    obtain ⟨rfl, rfl⟩ := HE.out
    clear HE
    have B3 := bstep B2 b3
    have hX3 := hX2.below b3 (Nat.le_refl _)
    have hY3 := hY2.below b3 (Nat.le_refl _)
    have hZ3 := OwnL.rd O3
    clear O3
    obtain rfl : n2 = n3 := by rw [← hZ3.len.out, ← HLY.out]
    go_wp2_with fail
    refine (sameBools_any A2 A3 n2 n2 c2 c3 ys3 ys3 _ hY3 hZ3 (by omega) (by omega)).mono ?_
    rintro x w4 ⟨t4, rfl, h4, m4, rfl⟩
    obtain rfl := h4.out.2 rfl
    clear h4
    obtain ⟨V, HV⟩ : ∃ V, Hid (clashL xs = V) := ⟨_, rfl⟩
    have HF := Lib.hid (set_ok HP.out)
    have hk := HF.out.1
    rw [HV.out] at hk
    cases t3 with
    | false =>
      have z1 : (V == 0) = false := hk.symm
      clear hk
      go_wp2_with fail
      refine (impl_StepClashes A1 n1 c1 xs _ (hX3.drewN _) hcap (by omega)).mono ?_
      rintro x w5 ⟨rfl, b5⟩
      rw [HV.out]
      have B5 := bstep (below_drewN B3 m4) b5
      go_wp2_with fail
      refine (alive_any _).mono ?_
      rintro x w6 ⟨rfl, b6⟩
      go_wp2
      go_ret
      exact ⟨rfl, bstep B5 b6⟩
    | true =>
      have z1 : (V == 0) = true := hk.symm
      clear hk
      go_wp2_with fail
      refine (impl_StepClashes A1 n1 c1 xs _ (hX3.drewN _) hcap (by omega)).mono ?_
      rintro x w5 ⟨rfl, b5⟩
      rw [HV.out]
      have B5 := bstep (below_drewN B3 m4) b5
      have hX5 := (hX3.drewN m4).below b5 (Nat.le_refl _)
      have hY5 := (hY3.drewN m4).below b5 (Nat.le_refl _)
      have HR : Hid (stepRunL (n1 : Int) ys3 = xs) := by
        have h := HF.out.2 (by trivial)
        rw [HLX.out] at h
        exact h
      go_wp2_with fail
      refine (impl_StepRun (n1 : Int) A2 n2 c2 ys3 _ hY5 (by omega)).mono ?_
      rintro x w6 ⟨A6, n6, c6, rfl, O6, b6⟩
      rw [HR.out] at O6
      have B6 := bstep B5 b6
      have hX6 := hX5.below b6 (Nat.le_refl _)
      have hW6 := OwnL.rd O6
      clear O6
      obtain rfl : n1 = n6 := by rw [← hW6.len.out, ← HLX.out]
      go_wp2_with fail
      refine (sameInts_any A6 A1 n1 n1 c6 c1 xs xs _ hW6 hX6 (by omega) (by omega)).mono ?_
      rintro x w7 ⟨t7, rfl, h7, m7, rfl⟩
      obtain rfl := h7.out.2 rfl
      clear h7
      go_wp2_with fail
      refine (alive_any _).mono ?_
      rintro x w8 ⟨rfl, b8⟩
      go_wp2
      go_ret
      exact ⟨rfl, bstep (below_drewN B6 _) b8⟩
  · go_enter Try.func13, Try.ntmps13
    go_wp2
    go_ret
    exact ⟨rfl, Below.refl _ _⟩
set_option maxRecDepth 100000 in
theorem lifted (os : Os) (started : os.Started) (H : Type) (enc : TypeId × Value → H) :
    ReturnsInHanded {} Try.checked os 13 .any (Rows.fnStepSetSpec.pre6 enc Try.prog Try.f13 Rows.fnStepSetRow.domain false) (Rows.fnStepSetSpec.post enc Try.prog Try.f13 false true false false) := by
  refine returnsInHanded_of_change (C := Try.checked) own started (by kernel_rfl) Try.func13
    (ChangeSpec.witness6 (enc := enc) (C := Try.checked) false ⟨#[], #[.slice none 0 0], []⟩ 8 (by kernel_rfl) (by kernel_rfl) (by kernel_rfl) (by kernel_rfl)) ?_
  intro W base args ds gs before hval0 hW hcnd _
  have hval : ∀ (j : Nat) t v, Try.f13.params[j]? = some t → args[j]? = some v → Value.okWide Try.prog W .any base t v := hval0
  have hW' := hW
  obtain ⟨p, q, hA0, hV, rfl, hfz, hnd⟩ := hW
  have hA : DataW.TrodAll enc Try.prog W 0 (fun _ => true) true Try.f13.params.toList args.toList ds p := hA0
  rw [Try.params13] at hA hval
  obtain ⟨v0, vs0, d0, ds0, p0, q0, hargs, rfl, rfl, k0, r0⟩ := trodAll_cons hA
  obtain ⟨rfl, rfl, rfl⟩ := trodAll_nil r0
  obtain rfl : args = #[v0] := by cases args; simp_all
  obtain ⟨rfl, rfl⟩ := trodVars_none hV
  have lt0 : ∀ x ∈ p0, x.block < W.heap.size := by obtain ⟨m, hm⟩ := k0; exact DataW.trod_lt m _ _ _ hm
  obtain ⟨a0, n0, c0, rfl⟩ := okWide_slice Try.underlying22 (hval 0 22 v0 rfl rfl)
  obtain ⟨z0, f0⟩ := open_bytes (W := W) k0
  clear hA0 hval0
  refine (walk a0 n0 c0 z0 W f0).mono fun e W' ⟨he, bel⟩ => ?_
  subst he
  exact ⟨_, rfl, _, _, _, [], _, [], hW', trodAll_mk1 (shut_bool Try.underlying4 _), (trodAll_cons_mk (Below.trod laidOut (by kernel_rfl) (of_decide_eq_true (by kernel_rfl)) k0 bel lt0) trodAll_mk0), rfl, bel.frame _, fun h => by cases h⟩
theorem closed : joinedFacts Try.pinned.checked.prog 13 Try.f13 Rows.fnStepSetSpec Rows.fnStepSetRow = true := by
  unfold joinedFacts
  repeat' (with_reducible refine Bool.and_eq_true_iff.2 ⟨?_, ?_⟩)
  · kernel_rfl
  · exact laidOut
  · kernel_rfl
  · kernel_rfl
  · kernel_rfl
  · kernel_rfl
  · kernel_rfl
  · kernel_rfl
  · kernel_rfl
  · kernel_rfl
  · kernel_rfl
  · kernel_rfl
  · kernel_rfl
  · kernel_rfl
  · kernel_rfl
  · kernel_rfl
  · kernel_rfl
  · kernel_rfl
  · kernel_rfl
  · kernel_rfl
  · kernel_rfl
  · kernel_rfl
  · kernel_rfl
  · kernel_rfl
  · kernel_rfl
  · exact heavy.1
  · exact heavy.2.1
  · exact heavy.2.2
  · kernel_rfl
  · kernel_rfl
  · kernel_rfl
  · kernel_rfl
theorem over : Rows.fnStepSetRow.holds Try.pinned (OpenSpec.ofChange Rows.fnStepSetSpec) :=
  OpenClaim.holds_of_wide 13 Try.f13 rfl rfl rfl rfl rfl rfl rfl ⟨rfl, rfl, rfl, rfl, rfl⟩ rfl rfl rfl rfl rfl (by kernel_rfl) Try.func13 closed
    (of_decide_eq_true (by kernel_rfl)) (by unfold Func.isWrapper; first | (rw [if_pos (by decide +kernel)]; kernel_rfl) | (rw [if_neg (by decide +kernel)]; exact ⟨rfl, rfl⟩))
    (fun os started H enc _ => lifted os started H enc)
theorem proved : Rows.FnStepSetSaid := over
#print axioms proved
end Go.Proofs.Ytiahpaakkijejaa.stepSet
