/- FnStepRun returns true for every code. No condition. -/
import Derived.Test.YtiahpaakkijejaaFrame
import Derived.Test.Ytiahpaakkijejaa3q
import Derived.Test.Ytiahpaakkijejaa3sc
import Derived.Test.YtiahpaakkijejaaD3b
namespace Go.Proofs.Ytiahpaakkijejaa.stepRun
open Go.ChangeShapes Go.WideShapes Go.ChangeAt Go.RowKit
set_option linter.unusedSimpArgs false
set_option linter.unusedVariables false
set_option maxHeartbeats 800000 in
set_option maxRecDepth 100000 in
theorem walk (A : Option Addr) (n c : Nat) (zs : List Int) (w : World) (f : RdL (Value.int .u8) w A n zs ∧ n ≤ c ∧ c ≤ maxLen ∧ ∀ z ∈ zs, (Lit.int .u8 z).wf = true) :
    Calls Try.prog 11 #[.slice A n c] w fun e w' => e = .returned (.bool true) ∧ Below w.heap.size w w' := by
  obtain ⟨hx, hc, hm, hz⟩ := f
  have HZ := Lib.hid (bytes_wf hz)
  clear hz
  by_cases hn : n ≤ 1048576
  · go_enter Try.func11, Try.ntmps11
    go_wp2_with fail
    refine (DrawStepRun_any A n c zs w hx HZ.out hc hn).mono ?_
    rintro x w1 ⟨l, A1, n1, c1, bs, rfl, HB, hn1, O1, b1⟩
    have hX := OwnL.rd O1
    have HLX := hX.len
    clear O1
    go_wp2_with fail
    refine (impl_StepRun l A1 n1 c1 bs w1 hX (by omega)).mono ?_
    rintro x w2 ⟨A2, n2, c2, rfl, O2, b2⟩
    have B2 := bstep b1 b2
    have hX2 := hX.below b2 (Nat.le_refl _)
    have hY2 := OwnL.rd O2
    have hcap := (OwnL.cap O2).1
    have HLY := hY2.len
    clear O2
    obtain ⟨ys, HYS⟩ : ∃ ys, Hid (stepRunL l bs = ys) := ⟨_, rfl⟩
    have hn2 : n2 ≤ 1048576 := by have := sr_len l bs (by rw [HLX.out]; omega); rw [← HLY.out]; exact this
    rw [HYS.out] at hY2 HLY
    go_wp2_with fail
    refine (spec_StepRun l A1 n1 c1 bs _ hX2 (by omega)).mono ?_
    rintro x w3 ⟨A3, n3, c3, rfl, O3, b3⟩
    have B3 := bstep B2 b3
    have hX3 := hX2.below b3 (Nat.le_refl _)
    have hY3 := hY2.below b3 (Nat.le_refl _)
    have hZ3 := OwnL.rd O3
    clear O3
    rw [HYS.out] at hZ3
    obtain rfl : n2 = n3 := by rw [← hZ3.len.out, ← HLY.out]
    go_wp2_with fail
    refine (sameInts_any A2 A3 n2 n2 c2 c3 ys ys _ hY3 hZ3 (by omega) (by omega)).mono ?_
    rintro x w4 ⟨t4, rfl, h4, m4, rfl⟩
    obtain rfl := h4.out.2 rfl
    clear h4
    by_cases h0 : n2 = 0
    · subst h0
      go_wp2_with fail
      refine (alive_any _).mono ?_
      rintro x w6 ⟨rfl, b6⟩
      go_wp2
      go_ret
      exact ⟨rfl, bstep (below_drewN B3 _) b6⟩
    · have HF := Lib.hid (run_facts HYS.out (by rw [HLY.out]; exact h0))
      have hn8 : n2 ≤ 8 := by have := HF.out.2.2.2; rw [HLY.out] at this; exact this
      go_wp2_with fail
      refine (impl_StepSet A2 n2 c2 ys _ (hY3.drewN _) hcap (by omega)).mono ?_
      rintro x w5 ⟨A5, n5, c5, zs5, t5, rfl, HQ, O5, b5⟩
      have B5 := bstep (below_drewN B3 m4) b5
      have HQ2 : Hid (zs5 = bs ∧ t5 = true) := by
        have h := HQ.out
        rw [HF.out.2.2.1] at h
        injection h with h1 h2
        exact ⟨h1.symm, h2.symm⟩
      clear HQ
      obtain ⟨rfl, rfl⟩ := HQ2.out
      have hX5 := (hX3.drewN m4).below b5 (Nat.le_refl _)
      have hY5 := (hY3.drewN m4).below b5 (Nat.le_refl _)
      have hW5 := OwnL.rd O5
      clear O5
      obtain rfl : n1 = n5 := by rw [← hW5.len.out, ← HLX.out]
      go_wp2_with fail
      refine (whole_yes A2 n2 c2 ys _ hY5 hcap (by omega) HF.out.1).mono ?_
      rintro x w6 ⟨rfl, m6, rfl⟩
      go_wp2_with fail
      refine (impl_StepClashes A2 n2 c2 ys _ (hY5.drewN _) hcap (by omega)).mono ?_
      rintro x w7 ⟨rfl, b7⟩
      rw [HF.out.2.1]
      have B7 := bstep (below_drewN B5 m6) b7
      have hX7 := (hX5.drewN m6).below b7 (Nat.le_refl _)
      have hW7 := (hW5.drewN m6).below b7 (Nat.le_refl _)
      go_wp2_with fail
      refine (sameBools_any A5 A1 n1 n1 c5 c1 zs5 zs5 _ hW7 hX7 (by omega) (by omega)).mono ?_
      rintro x w8 ⟨t8, rfl, h8, m8, rfl⟩
      obtain rfl := h8.out.2 rfl
      go_wp2
      go_ret
      exact ⟨rfl, below_drewN B7 _⟩
  · go_enter Try.func11, Try.ntmps11
    go_wp2
    go_ret
    exact ⟨rfl, Below.refl _ _⟩
set_option maxRecDepth 100000 in
theorem lifted (os : Os) (started : os.Started) (H : Type) (enc : TypeId × Value → H) :
    ReturnsInHanded {} Try.checked os 11 .any (Rows.fnStepRunSpec.pre6 enc Try.prog Try.f11 Rows.fnStepRunRow.domain false) (Rows.fnStepRunSpec.post enc Try.prog Try.f11 false true false false) := by
  refine returnsInHanded_of_change (C := Try.checked) own started (by kernel_rfl) Try.func11
    (ChangeSpec.witness6 (enc := enc) (C := Try.checked) false ⟨#[], #[.slice none 0 0], []⟩ 8 (by kernel_rfl) (by kernel_rfl) (by kernel_rfl) (by kernel_rfl)) ?_
  intro W base args ds gs before hval0 hW hcnd _
  have hval : ∀ (j : Nat) t v, Try.f11.params[j]? = some t → args[j]? = some v → Value.okWide Try.prog W .any base t v := hval0
  have hW' := hW
  obtain ⟨p, q, hA0, hV, rfl, hfz, hnd⟩ := hW
  have hA : DataW.TrodAll enc Try.prog W 0 (fun _ => true) true Try.f11.params.toList args.toList ds p := hA0
  rw [Try.params11] at hA hval
  obtain ⟨v0, vs0, d0, ds0, p0, q0, hargs, rfl, rfl, k0, r0⟩ := trodAll_cons hA
  obtain ⟨rfl, rfl, rfl⟩ := trodAll_nil r0
  obtain rfl : args = #[v0] := by cases args; simp_all
  obtain ⟨rfl, rfl⟩ := trodVars_none hV
  have lt0 : ∀ x ∈ p0, x.block < W.heap.size := by obtain ⟨m, hm⟩ := k0; exact DataW.trod_lt m _ _ _ hm
  obtain ⟨a0, n0, c0, rfl⟩ := okWide_slice Try.underlying22 (hval 0 22 v0 rfl rfl)
  obtain ⟨z0, f0⟩ := open_bytes (W := W) k0
  clear hA0 hval0
  refine (walk a0 n0 c0 z0 W f0).mono fun e W' ⟨he, bel⟩ => ?_
  subst he
  exact ⟨_, rfl, _, _, _, [], _, [], hW', trodAll_mk1 (shut_bool Try.underlying4 _), (trodAll_cons_mk (Below.trod laidOut (by kernel_rfl) (of_decide_eq_true (by kernel_rfl)) k0 bel lt0) trodAll_mk0), rfl, bel.frame _, fun h => by cases h⟩
theorem closed : joinedFacts Try.pinned.checked.prog 11 Try.f11 Rows.fnStepRunSpec Rows.fnStepRunRow = true := by
  unfold joinedFacts
  repeat' (with_reducible refine Bool.and_eq_true_iff.2 ⟨?_, ?_⟩)
  · kernel_rfl
  · exact laidOut
  · kernel_rfl
  · kernel_rfl
  · kernel_rfl
  · kernel_rfl
  · kernel_rfl
  · kernel_rfl
  · kernel_rfl
  · kernel_rfl
  · kernel_rfl
  · kernel_rfl
  · kernel_rfl
  · kernel_rfl
  · kernel_rfl
  · kernel_rfl
  · kernel_rfl
  · kernel_rfl
  · kernel_rfl
  · kernel_rfl
  · kernel_rfl
  · kernel_rfl
  · kernel_rfl
  · kernel_rfl
  · kernel_rfl
  · exact heavy.1
  · exact heavy.2.1
  · exact heavy.2.2
  · kernel_rfl
  · kernel_rfl
  · kernel_rfl
  · kernel_rfl
theorem over : Rows.fnStepRunRow.holds Try.pinned (OpenSpec.ofChange Rows.fnStepRunSpec) :=
  OpenClaim.holds_of_wide 11 Try.f11 rfl rfl rfl rfl rfl rfl rfl ⟨rfl, rfl, rfl, rfl, rfl⟩ rfl rfl rfl rfl rfl (by kernel_rfl) Try.func11 closed
    (of_decide_eq_true (by kernel_rfl)) (by unfold Func.isWrapper; first | (rw [if_pos (by decide +kernel)]; kernel_rfl) | (rw [if_neg (by decide +kernel)]; exact ⟨rfl, rfl⟩))
    (fun os started H enc _ => lifted os started H enc)
theorem proved : Rows.FnStepRunSaid := over
#print axioms proved
end Go.Proofs.Ytiahpaakkijejaa.stepRun
