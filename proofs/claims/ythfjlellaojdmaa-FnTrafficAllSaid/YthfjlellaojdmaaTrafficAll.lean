/- FnTrafficAll returns true for every code. No condition. -/
import Derived.Test.YthfjlellaojdmaaFrame
import Derived.Test.YthfjlellaojdmaaPerm
import Derived.Test.Ythfjlellaojdmaa5z
namespace Go.Proofs.Ythfjlellaojdmaa.trafficAll
open Go.ChangeShapes Go.WideShapes Go.ChangeAt Go.RowKit
set_option linter.unusedSimpArgs false
set_option linter.unusedVariables false
set_option maxHeartbeats 4000000 in
set_option maxRecDepth 100000 in
theorem walk (A : Option Addr) (n c : Nat) (zs : List Int) (w : World) (f : RdL (Value.int .u8) w A n zs ∧ n ≤ c ∧ c ≤ maxLen ∧ ∀ z ∈ zs, (Lit.int .u8 z).wf = true) :
    Calls Try.prog 5 #[.slice A n c] w fun e w' => e = .returned (.bool true) ∧ Below w.heap.size w w' := by
  obtain ⟨hx, hc, hm, hz⟩ := f
  have HZ := Lib.hid (bytes_wf hz)
  clear hz
  by_cases hn : n ≤ 1048576
  · go_enter Try.func5, Try.ntmps5
    go_wp2_with fail
    refine (DrawTrafficAll_any A n c zs w hx HZ.out hc hn).mono ?_
    rintro x w1 ⟨A1, n1, c1, t, rfl, hT, hc1, hsm, b1⟩
    have HL := hT.len
    have HSM := Lib.hid hsm; clear hsm

    go_wp2_with fail
    refine (impl_TrafficAll0 A1 n1 c1 t w1 hT HSM.out).mono ?_
    rintro x w2 ⟨rfl, m2, rfl⟩
    obtain ⟨V, HV⟩ : ∃ V, Hid (allL t = V) := ⟨_, rfl⟩
    rw [HV.out]
    go_wp2_with fail
    refine (spec_TrafficAll0 A1 n1 c1 t _ (hT.drewN _) HSM.out).mono ?_
    rintro x w3 ⟨rfl, m3, rfl⟩
    rw [HV.out]
    have hvv : (V != V) = false := by simp
    by_cases hTO : TrafOk t
    · have h6 : n1 ≤ 6 := by rw [← HL.out]; exact hTO.six
      have hvb : 0 ≤ V ∧ V ≤ 216 := by
        rw [← HV.out, allL_yes hTO]; exact allS_bd hTO.six hTO.bd6
      obtain ⟨hv0, hv1⟩ := hvb
      have hvz : decide (V < 0) = false := by simp; omega
      go_wp2_with fail
      refine (impl_LineMost A1 n1 c1 t _ (hT.drewN _) HSM.out).mono ?_
      rintro x w4 ⟨rfl, m4, rfl⟩
      obtain ⟨M, HM⟩ : ∃ M, Hid (lineL t = M) := ⟨_, rfl⟩
      rw [HM.out]
      have hMb : 0 ≤ M ∧ M ≤ 36 := by rw [← HM.out, lineL_yes hTO]; exact most_bd hTO.six hTO.f
      obtain ⟨hM0, hM1⟩ := hMb
      obtain ⟨Q, hQ⟩ : ∃ Q : Int, M * (n1 : Int) = Q := ⟨_, rfl⟩
      have hQb : 0 ≤ Q ∧ Q ≤ 216 := by
        rw [← hQ]
        rcases (by omega : n1 = 0 ∨ n1 = 1 ∨ n1 = 2 ∨ n1 = 3 ∨ n1 = 4 ∨ n1 = 5 ∨ n1 = 6) with h | h | h | h | h | h | h <;> (rw [h]; omega)
      have HVQ : Hid (V ≤ Q ∧ (V = Q ↔ EvenL t)) := by
        show _ ∧ _
        have h1 := all_le t.length (fOf t)
        have h2 := all_eq t.length (fOf t)
        rw [← hQ, ← HV.out, ← HM.out, allL_yes hTO, lineL_yes hTO, ← HL.out]
        exact ⟨h1, h2.trans ⟨fun h => ⟨hTO, h⟩, fun h => h.2⟩⟩
      have hVQ := HVQ.out.1
      obtain ⟨hQ0, hQ1⟩ := hQb
      have hQw : IntKind.i64.wrap (M * (n1 : Int)) = Q := by rw [hQ]; exact IntWalk.i64_in _ (by omega)
      by_cases he : V = Q
      · have HE : Hid (EvenL t) := HVQ.out.2.1 he
        have hez : (V == Q) = true := by simp [he]
        have HEE := Lib.hid he; clear he
        go_wp2_with fail
        refine (retB_is (b := true) ⟨fun _ => HE.out, fun _ => rfl⟩ (impl_Even A1 n1 c1 t _ (hT.drewN _) HSM.out)).mono ?_
        rintro x w5 ⟨rfl, m5, rfl⟩
        go_wp2
        go_ret
        exact ⟨rfl, below_drewN b1 _⟩
      · have HE : Hid (¬ EvenL t) := fun h => he (HVQ.out.2.2 h)
        have hez : (V == Q) = false := by simp [he]
        have HEE := Lib.hid he; clear he
        go_wp2_with fail
        refine (retB_is (b := false) ⟨fun h => by simp at h, fun h => absurd h HE.out⟩ (impl_Even A1 n1 c1 t _ (hT.drewN _) HSM.out)).mono ?_
        rintro x w5 ⟨rfl, m5, rfl⟩
        go_wp2
        go_ret
        exact ⟨rfl, below_drewN b1 _⟩
    · have hv1 : V = -1 := by rw [← HV.out, allL_no hTO]
      subst hv1
      go_wp2_with fail
      refine (alive_any _).mono ?_
      rintro x w4 ⟨rfl, b4⟩
      go_wp2
      go_ret
      exact ⟨rfl, bstep (below_drewN b1 _) b4⟩
  · go_enter Try.func5, Try.ntmps5
    go_wp2
    go_ret
    exact ⟨rfl, Below.refl _ _⟩
set_option maxRecDepth 100000 in
theorem lifted (os : Os) (started : os.Started) (H : Type) (enc : TypeId × Value → H) :
    ReturnsInHanded {} Try.checked os 5 .any (Rows.fnTrafficAllSpec.pre6 enc Try.prog Try.f5 Rows.fnTrafficAllRow.domain false) (Rows.fnTrafficAllSpec.post enc Try.prog Try.f5 false true false false) := by
  refine returnsInHanded_of_change (C := Try.checked) own started (by kernel_rfl) Try.func5
    (ChangeSpec.witness6 (enc := enc) (C := Try.checked) false ⟨#[], #[.slice none 0 0], []⟩ 8 (by kernel_rfl) (by kernel_rfl) (by kernel_rfl) (by kernel_rfl)) ?_
  intro W base args ds gs before hval0 hW hcnd _
  have hval : ∀ (j : Nat) t v, Try.f5.params[j]? = some t → args[j]? = some v → Value.okWide Try.prog W .any base t v := hval0
  have hW' := hW
  obtain ⟨p, q, hA0, hV, rfl, hfz, hnd⟩ := hW
  have hA : DataW.TrodAll enc Try.prog W 0 (fun _ => true) true Try.f5.params.toList args.toList ds p := hA0
  rw [Try.params5] at hA hval
  obtain ⟨v0, vs0, d0, ds0, p0, q0, hargs, rfl, rfl, k0, r0⟩ := trodAll_cons hA
  obtain ⟨rfl, rfl, rfl⟩ := trodAll_nil r0
  obtain rfl : args = #[v0] := by cases args; simp_all
  obtain ⟨rfl, rfl⟩ := trodVars_none hV
  have lt0 : ∀ x ∈ p0, x.block < W.heap.size := by obtain ⟨m, hm⟩ := k0; exact DataW.trod_lt m _ _ _ hm
  obtain ⟨a0, n0, c0, rfl⟩ := okWide_slice Try.underlying22 (hval 0 22 v0 rfl rfl)
  obtain ⟨z0, f0⟩ := open_bytes (W := W) k0
  clear hA0 hval0
  refine (walk a0 n0 c0 z0 W f0).mono fun e W' ⟨he, bel⟩ => ?_
  subst he
  exact ⟨_, rfl, _, _, _, [], _, [], hW', trodAll_mk1 (shut_bool Try.underlying4 _), (trodAll_cons_mk (Below.trod laidOut (by kernel_rfl) (of_decide_eq_true (by kernel_rfl)) k0 bel lt0) trodAll_mk0), rfl, bel.frame _, fun h => by cases h⟩
theorem closed : joinedFacts Try.pinned.checked.prog 5 Try.f5 Rows.fnTrafficAllSpec Rows.fnTrafficAllRow = true := by
  unfold joinedFacts
  repeat' (with_reducible refine Bool.and_eq_true_iff.2 ⟨?_, ?_⟩)
  · kernel_rfl
  · exact laidOut
  · kernel_rfl
  · kernel_rfl
  · kernel_rfl
  · kernel_rfl
  · kernel_rfl
  · kernel_rfl
  · kernel_rfl
  · kernel_rfl
  · kernel_rfl
  · kernel_rfl
  · kernel_rfl
  · kernel_rfl
  · kernel_rfl
  · kernel_rfl
  · kernel_rfl
  · kernel_rfl
  · kernel_rfl
  · kernel_rfl
  · kernel_rfl
  · kernel_rfl
  · kernel_rfl
  · kernel_rfl
  · kernel_rfl
  · exact heavy.1
  · exact heavy.2.1
  · exact heavy.2.2
  · kernel_rfl
  · kernel_rfl
  · kernel_rfl
  · kernel_rfl
theorem over : Rows.fnTrafficAllRow.holds Try.pinned (OpenSpec.ofChange Rows.fnTrafficAllSpec) :=
  OpenClaim.holds_of_wide 5 Try.f5 rfl rfl rfl rfl rfl rfl rfl ⟨rfl, rfl, rfl, rfl, rfl⟩ rfl rfl rfl rfl rfl (by kernel_rfl) Try.func5 closed
    (of_decide_eq_true (by kernel_rfl)) (by unfold Func.isWrapper; first | (rw [if_pos (by decide +kernel)]; kernel_rfl) | (rw [if_neg (by decide +kernel)]; exact ⟨rfl, rfl⟩))
    (fun os started H enc _ => lifted os started H enc)
theorem proved : Rows.FnTrafficAllSaid := over
#print axioms proved
end Go.Proofs.Ythfjlellaojdmaa.trafficAll
