/- FnFrameGreedy returns true for every code. No condition. -/
import Derived.Test.YthfjlellaojdmaaFrame
import Derived.Test.YthfjlellaojdmaaPerm
import Derived.Test.Ythfjlellaojdmaa5z
import Derived.Test.Ythfjlellaojdmaa5s
import Derived.Test.Ythfjlellaojdmaa5o2
namespace Go.Proofs.Ythfjlellaojdmaa.frameGreedy
open Go.ChangeShapes Go.WideShapes Go.ChangeAt Go.RowKit
set_option linter.unusedSimpArgs false
set_option linter.unusedVariables false
set_option maxHeartbeats 4000000 in
set_option maxRecDepth 100000 in
theorem walk (A : Option Addr) (n c : Nat) (zs : List Int) (w : World) (f : RdL (Value.int .u8) w A n zs ∧ n ≤ c ∧ c ≤ maxLen ∧ ∀ z ∈ zs, (Lit.int .u8 z).wf = true) :
    Calls Try.prog 7 #[.slice A n c] w fun e w' => e = .returned (.bool true) ∧ Below w.heap.size w w' := by
  obtain ⟨hx, hc, hm, hz⟩ := f
  have HZ := Lib.hid (bytes_wf hz)
  clear hz
  by_cases hn : n ≤ 1048576
  · go_enter Try.func7, Try.ntmps7
    go_wp2_with fail
    refine (DrawFrameGreedy_any A n c zs w hx HZ.out hc hn).mono ?_
    rintro x w1 ⟨A1, n1, c1, t, rfl, hT, hc1, hsm, b1⟩
    have HL := hT.len
    have HSM := Lib.hid hsm; clear hsm

    go_wp2_with fail
    refine (impl_FrameGreedy A1 n1 c1 t w1 hT hc1 HSM.out).mono ?_
    rintro x w2 ⟨A2, n2, c2, rfl, hX, b2⟩
    have B2 := bstep b1 b2
    have HL2 := hX.len
    have HS2 : Hid (SmT (greedyL t)) := greedy_sm HSM.out
    go_wp2_with fail
    refine (spec_FrameGreedy A1 n1 c1 t w2 (hT.below b2 (Nat.le_refl _)) hc1 HSM.out).mono ?_
    rintro x w3 ⟨A3, n3, c3, rfl, hY, b3⟩
    have B3 := bstep B2 b3
    have hX3 := hX.below b3 (Nat.le_refl _)
    have hT3 := hT.below (bstep b2 b3) (Nat.le_refl _)
    go_wp2_with fail
    refine (retB_is (b := true) ⟨fun _ => rfl, fun _ => rfl⟩ (sameLists_any A2 A3 n2 n3 c2 c3 _ _ w3 hX3.rd hY.rd HS2.out HS2.out)).mono ?_
    rintro x w4 ⟨rfl, m4, rfl⟩
    have hX4 := hX3.rd.drewN m4
    have hT4 := hT3.drewN m4
    have B4 := below_drewN B3 m4
    have hc2 := hX.cap.1
    clear hX hY hX3 hT3 b2 b3 B2 B3 hT b1
    obtain ⟨W, hW⟩ : ∃ W, w3.drewN m4 = W := ⟨_, rfl⟩
    rw [hW] at hX4 hT4 B4 ⊢
    clear hW
    by_cases hTO : TrafOk t
    · have HTO := Lib.hid hTO
      go_wp2_with fail
      refine (retB_is (b := true) ⟨fun _ => HTO.out, fun _ => rfl⟩ (spec_TrafficValid A1 n1 c1 t _ hT4 HSM.out)).mono ?_
      rintro x w5 ⟨rfl, m5, rfl⟩
      obtain ⟨s, hs⟩ := greedy_end hTO.bd6
      have HGR : Hid (greedyL t = gFr t.length (fOf t) s) := greedyL_yes hTO hs
      have hn2 : n2 = s := by rw [← HL2.out, HGR.out, gFr_len]
      subst hn2
      obtain ⟨M, HM⟩ : ∃ M, Hid (lineL t = M) := ⟨_, rfl⟩
      have hMb : 0 ≤ M ∧ M ≤ 36 := by rw [← HM.out, lineL_yes hTO]; exact most_bd hTO.six hTO.f
      obtain ⟨hM0, hM1⟩ := hMb
      have hML : M ≤ n2 := by rw [← HM.out, lineL_yes hTO]; exact g_long hTO.bd6 hs
      have hMS : n2 = 0 ∨ (n2 : Int) < 2 * M := by
        rcases Nat.eq_zero_or_pos n2 with h | h
        · exact .inl h
        · right
          obtain ⟨q, rfl⟩ : ∃ q, n2 = q + 1 := ⟨n2 - 1, by omega⟩
          have := g_short hTO.bd6 hs
          rw [← HM.out, lineL_yes hTO]
          omega
      have HSN : Hid (sendsL (greedyL t) = allL t) := by show _ = _; rw [HGR.out, g_sends hTO.bd6 hs, allL_yes hTO]
      clear hTO hs
      go_wp2_with fail
      refine (impl_LineMost A1 n1 c1 t _ (hT4.drewN _) HSM.out).mono ?_
      rintro x w6 ⟨rfl, m6, rfl⟩
      rw [HM.out]
      go_wp2_with fail
      refine (impl_FrameSends0 A2 n2 c2 _ _ (hX4.drewN _) HS2.out).mono ?_
      rintro x w7 ⟨rfl, m7, rfl⟩
      rw [HSN.out]
      go_wp2_with fail
      refine (impl_TrafficAll0 A1 n1 c1 t _ (hT4.drewN _) HSM.out).mono ?_
      rintro x w8 ⟨rfl, m8, rfl⟩
      have hee : (allL t == allL t) = true := by simp
      have hge : decide (M ≤ (n2 : Int)) = true := by simp; omega
      by_cases hM00 : M = 0
      · subst hM00
        have hn0 : n2 = 0 := by omega
        subst hn0
        go_wp2
        go_ret
        exact ⟨rfl, below_drewN B4 _⟩
      · have hMz : (M == 0) = false := by simpa using hM00
        have hlt2 : (n2 : Int) < 2 * M := by omega
        go_wp2
        go_ret
        exact ⟨rfl, below_drewN B4 _⟩
    · have HTO := Lib.hid hTO
      have hn2 : n2 = 0 := by rw [← HL2.out, greedyL_no hTO]; rfl
      subst hn2
      go_wp2_with fail
      refine (retB_is (b := false) ⟨fun h => by simp at h, fun h => absurd h HTO.out⟩ (spec_TrafficValid A1 n1 c1 t _ hT4 HSM.out)).mono ?_
      rintro x w5 ⟨rfl, m5, rfl⟩
      go_wp2_with fail
      refine (alive_any _).mono ?_
      rintro x w6 ⟨rfl, b6⟩
      go_wp2
      go_ret
      exact ⟨rfl, bstep (below_drewN B4 _) b6⟩
  · go_enter Try.func7, Try.ntmps7
    go_wp2
    go_ret
    exact ⟨rfl, Below.refl _ _⟩
set_option maxRecDepth 100000 in
theorem lifted (os : Os) (started : os.Started) (H : Type) (enc : TypeId × Value → H) :
    ReturnsInHanded {} Try.checked os 7 .any (Rows.fnFrameGreedySpec.pre6 enc Try.prog Try.f7 Rows.fnFrameGreedyRow.domain false) (Rows.fnFrameGreedySpec.post enc Try.prog Try.f7 false true false false) := by
  refine returnsInHanded_of_change (C := Try.checked) own started (by kernel_rfl) Try.func7
    (ChangeSpec.witness6 (enc := enc) (C := Try.checked) false ⟨#[], #[.slice none 0 0], []⟩ 8 (by kernel_rfl) (by kernel_rfl) (by kernel_rfl) (by kernel_rfl)) ?_
  intro W base args ds gs before hval0 hW hcnd _
  have hval : ∀ (j : Nat) t v, Try.f7.params[j]? = some t → args[j]? = some v → Value.okWide Try.prog W .any base t v := hval0
  have hW' := hW
  obtain ⟨p, q, hA0, hV, rfl, hfz, hnd⟩ := hW
  have hA : DataW.TrodAll enc Try.prog W 0 (fun _ => true) true Try.f7.params.toList args.toList ds p := hA0
  rw [Try.params7] at hA hval
  obtain ⟨v0, vs0, d0, ds0, p0, q0, hargs, rfl, rfl, k0, r0⟩ := trodAll_cons hA
  obtain ⟨rfl, rfl, rfl⟩ := trodAll_nil r0
  obtain rfl : args = #[v0] := by cases args; simp_all
  obtain ⟨rfl, rfl⟩ := trodVars_none hV
  have lt0 : ∀ x ∈ p0, x.block < W.heap.size := by obtain ⟨m, hm⟩ := k0; exact DataW.trod_lt m _ _ _ hm
  obtain ⟨a0, n0, c0, rfl⟩ := okWide_slice Try.underlying22 (hval 0 22 v0 rfl rfl)
  obtain ⟨z0, f0⟩ := open_bytes (W := W) k0
  clear hA0 hval0
  refine (walk a0 n0 c0 z0 W f0).mono fun e W' ⟨he, bel⟩ => ?_
  subst he
  exact ⟨_, rfl, _, _, _, [], _, [], hW', trodAll_mk1 (shut_bool Try.underlying4 _), (trodAll_cons_mk (Below.trod laidOut (by kernel_rfl) (of_decide_eq_true (by kernel_rfl)) k0 bel lt0) trodAll_mk0), rfl, bel.frame _, fun h => by cases h⟩
theorem closed : joinedFacts Try.pinned.checked.prog 7 Try.f7 Rows.fnFrameGreedySpec Rows.fnFrameGreedyRow = true := by
  unfold joinedFacts
  repeat' (with_reducible refine Bool.and_eq_true_iff.2 ⟨?_, ?_⟩)
  · kernel_rfl
  · exact laidOut
  · kernel_rfl
  · kernel_rfl
  · kernel_rfl
  · kernel_rfl
  · kernel_rfl
  · kernel_rfl
  · kernel_rfl
  · kernel_rfl
  · kernel_rfl
  · kernel_rfl
  · kernel_rfl
  · kernel_rfl
  · kernel_rfl
  · kernel_rfl
  · kernel_rfl
  · kernel_rfl
  · kernel_rfl
  · kernel_rfl
  · kernel_rfl
  · kernel_rfl
  · kernel_rfl
  · kernel_rfl
  · kernel_rfl
  · exact heavy.1
  · exact heavy.2.1
  · exact heavy.2.2
  · kernel_rfl
  · kernel_rfl
  · kernel_rfl
  · kernel_rfl
theorem over : Rows.fnFrameGreedyRow.holds Try.pinned (OpenSpec.ofChange Rows.fnFrameGreedySpec) :=
  OpenClaim.holds_of_wide 7 Try.f7 rfl rfl rfl rfl rfl rfl rfl ⟨rfl, rfl, rfl, rfl, rfl⟩ rfl rfl rfl rfl rfl (by kernel_rfl) Try.func7 closed
    (of_decide_eq_true (by kernel_rfl)) (by unfold Func.isWrapper; first | (rw [if_pos (by decide +kernel)]; kernel_rfl) | (rw [if_neg (by decide +kernel)]; exact ⟨rfl, rfl⟩))
    (fun os started H enc _ => lifted os started H enc)
theorem proved : Rows.FnFrameGreedySaid := over
#print axioms proved
end Go.Proofs.Ythfjlellaojdmaa.frameGreedy
