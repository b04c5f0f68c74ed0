/- FnCallDrop returns true for every code. No condition. -/
import Derived.Test.YtcickfahpcmcdaaFrame
import Derived.Test.YtcickfahpcmcdaaPerm
import Derived.Test.YtcickfahpcmcdaaAsk2
import Derived.Test.Ytcickfahpcmcdaa4sc
import Derived.Test.YtcickfahpcmcdaaAsk4
import Derived.Test.Ytcickfahpcmcdaa4dl
import Derived.Test.Ytcickfahpcmcdaa4w
import Derived.Test.Ytcickfahpcmcdaa4ws
namespace Go.Proofs.Ytcickfahpcmcdaa.callDrop
open Go.ChangeShapes Go.WideShapes Go.ChangeAt Go.RowKit
set_option linter.unusedSimpArgs false
set_option linter.unusedVariables false
set_option maxHeartbeats 4000000 in
set_option maxRecDepth 100000 in
theorem walk (A : Option Addr) (n c : Nat) (zs : List Int) (w : World) (f : RdL (Value.int .u8) w A n zs ∧ n ≤ c ∧ c ≤ maxLen ∧ ∀ z ∈ zs, (Lit.int .u8 z).wf = true) :
    Calls Try.prog 9 #[.slice A n c] w fun e w' => e = .returned (.bool true) ∧ Below w.heap.size w w' := by
  obtain ⟨hx, hc, hm, hz⟩ := f
  have HZ := Lib.hid (bytes_wf hz)
  clear hz
  by_cases hn : n ≤ 1048576
  · go_enter Try.func9, Try.ntmps9
    go_wp2_with fail
    refine (DrawCallDrop_any A n c zs w hx HZ.out hc hn).mono ?_
    rintro x w1 ⟨o, e, m, A1, n1, c1, xs, i, rfl, HB, hn1, O1, b1⟩
    obtain ⟨ho0, ho1, he0, he1, hm0, hm1⟩ := HB.out
    have S1 := ShAt.new w1 o e m
    have O1' := OwnM.alloc O1 (.cells #[.int .i64 o, .int .i64 e, .int .i64 m] 24)
    have hX := OwnC.rd O1'
    have hcap := (OwnM.cap O1).1
    have HLX := hX.len
    have B1 := bbox b1 b1.size (.cells #[.int .i64 o, .int .i64 e, .int .i64 m] 24)
    clear O1 O1'
    obtain ⟨s0, s1, s2, -⟩ := S1.cells

    go_wp2_with fail
    refine (impl_CallDrop o e m A1 n1 c1 xs i _ hX hcap (by omega)).mono ?_
    rintro x w2 ⟨A2, n2, c2, ys, t, rfl, HP2, O2, b2⟩
    have S2 := S1.below b2
    have B2 := bstep B1 b2
    have hX2 := RdM.below hX b2 (Nat.le_refl _)
    have hl2 : n2 ≤ 1048576 := by have h1 := drop_len o e m xs i (by rw [HLX.out]; omega); rw [HP2.out] at h1; have h2 := (OwnC.len O2).out; rw [← h2]; exact h1
    clear s0 s1 s2
    obtain ⟨s0, s1, s2, -⟩ := S2.cells
    go_wp2_with fail
    refine (spec_CallDrop o e m A1 n1 c1 xs i _ hX2 hcap (by omega)).mono ?_
    rintro x w3 ⟨A3, n3, c3, ys', t', rfl, HP3, O3, b3⟩
    obtain ⟨rfl, rfl⟩ : ys = ys' ∧ t = t' := by have h := HP2.out.symm.trans HP3.out; injection h with h1 h2; exact ⟨h1, h2⟩
    have hl3 : n3 = n2 := by rw [← (OwnC.len O3).out, ← (OwnC.len O2).out]
    subst hl3
    have S3 := S2.below b3
    have B3 := bstep B2 b3
    have hX3 := RdM.below hX2 b3 (Nat.le_refl _)
    have hY2 := RdM.below (OwnC.rd O2) b3 (Nat.le_refl _)
    have hcapY := (OwnM.cap O2).1
    have HLY := (OwnC.len O2)
    have hY3 := OwnC.rd O3
    clear s0 s1 s2
    go_wp2_with fail
    refine (sameCalls_any A2 A3 n3 n3 c2 c3 ys ys _ hY2 hY3 (by omega) (by omega)).mono ?_
    rintro x w4 ⟨v4, rfl, hv4, m4, rfl⟩
    obtain rfl := hv4.out.2 rfl
    clear hv4
    have S4 := S3.drewN m4
    obtain ⟨s0, s1, s2, -⟩ := S4.cells
    have z0 : (t != t) = false := by cases t <;> rfl
    go_wp2_with fail
    refine (spec_CallsValid o e m A1 n1 c1 xs _ (hX3.drewN _) hcap (by omega)).mono ?_
    rintro x w5 ⟨v5, rfl, hv5, b5⟩
    have B5 := bstep (below_drewN B3 m4) b5
    cases v5 with
    | false =>
      obtain ⟨h1, rfl⟩ := drop_bad HP2.out (fun h => by have := hv5.out.2 h; cases this)
      obtain rfl : n3 = 0 := by rw [← HLY.out, h1]; rfl
      clear hv5
      go_wp2_with fail
      refine (alive_any _).mono ?_
      rintro x w6 ⟨rfl, b6⟩
      go_wp2
      go_ret
      exact ⟨rfl, bstep B5 b6⟩
    | true =>
      have HF := Lib.hid (drop_facts HP2.out (hv5.out.1 rfl))
      clear hv5
      have S5 := S4.below b5
      have hX5 := RdM.below (hX3.drewN m4) b5 (Nat.le_refl _)
      have hY5 := RdM.below (hY2.drewN m4) b5 (Nat.le_refl _)
      clear s0 s1 s2
      obtain ⟨s0, s1, s2, -⟩ := S5.cells
      go_wp2_with fail
      refine (impl_CallsValid o e m A2 n3 c2 ys _ hY5 hcapY (by omega)).mono ?_
      rintro x w6 ⟨v6, rfl, hv6, b6⟩
      obtain rfl := hv6.out.2 HF.out.1
      clear hv6
      have B6 := bstep B5 b6
      have hX6 := RdM.below hX5 b6 (Nat.le_refl _)
      have hY6 := RdM.below hY5 b6 (Nat.le_refl _)
      go_wp2_with fail
      refine (busy_any A1 n1 c1 xs i (-1) _ hX6 (by omega)).mono ?_
      rintro x w7 ⟨v7, rfl, hv7, m7, rfl⟩
      obtain rfl : v7 = t := by rw [Bool.eq_iff_iff, hv7.out, HF.out.2.1]
      clear hv7
      have z1 : (v7 == v7) = true := by cases v7 <;> rfl
      go_wp2_with fail
      refine (busy_any A2 n3 c2 ys i (-1) _ (hY6.drewN _) (by omega)).mono ?_
      rintro x w8 ⟨v8, rfl, hv8, m8, rfl⟩
      obtain rfl : v8 = false := by
        cases v8 with
        | false => rfl
        | true => exact absurd (hv8.out.1 rfl) HF.out.2.2.1
      clear hv8
      cases v7 with
      | true =>
        have hlen : n1 = n3 + 1 := by have := HF.out.2.2.2.1 rfl; rw [HLX.out, HLY.out] at this; omega
        subst hlen
        go_wp2
        go_ret
        exact ⟨rfl, below_drewN B6 _⟩
      | false =>
        obtain rfl := HF.out.2.2.2.2 rfl
        go_wp2_with fail
        refine (sameCalls_any A2 A1 n3 n1 c2 c1 ys ys _ (hY6.drewN _) (hX6.drewN _) (by omega) (by omega)).mono ?_
        rintro x w9 ⟨v9, rfl, hv9, m9, rfl⟩
        obtain rfl := hv9.out.2 rfl
        go_wp2
        go_ret
        exact ⟨rfl, below_drewN B6 _⟩
  · go_enter Try.func9, Try.ntmps9
    go_wp2
    go_ret
    exact ⟨rfl, Below.refl _ _⟩
set_option maxRecDepth 100000 in
theorem lifted (os : Os) (started : os.Started) (H : Type) (enc : TypeId × Value → H) :
    ReturnsInHanded {} Try.checked os 9 .any (Rows.fnCallDropSpec.pre6 enc Try.prog Try.f9 Rows.fnCallDropRow.domain false) (Rows.fnCallDropSpec.post enc Try.prog Try.f9 false true false false) := by
  refine returnsInHanded_of_change (C := Try.checked) own started (by kernel_rfl) Try.func9
    (ChangeSpec.witness6 (enc := enc) (C := Try.checked) false ⟨#[], #[.slice none 0 0], []⟩ 8 (by kernel_rfl) (by kernel_rfl) (by kernel_rfl) (by kernel_rfl)) ?_
  intro W base args ds gs before hval0 hW hcnd _
  have hval : ∀ (j : Nat) t v, Try.f9.params[j]? = some t → args[j]? = some v → Value.okWide Try.prog W .any base t v := hval0
  have hW' := hW
  obtain ⟨p, q, hA0, hV, rfl, hfz, hnd⟩ := hW
  have hA : DataW.TrodAll enc Try.prog W 0 (fun _ => true) true Try.f9.params.toList args.toList ds p := hA0
  rw [Try.params9] at hA hval
  obtain ⟨v0, vs0, d0, ds0, p0, q0, hargs, rfl, rfl, k0, r0⟩ := trodAll_cons hA
  obtain ⟨rfl, rfl, rfl⟩ := trodAll_nil r0
  obtain rfl : args = #[v0] := by cases args; simp_all
  obtain ⟨rfl, rfl⟩ := trodVars_none hV
  have lt0 : ∀ x ∈ p0, x.block < W.heap.size := by obtain ⟨m, hm⟩ := k0; exact DataW.trod_lt m _ _ _ hm
  obtain ⟨a0, n0, c0, rfl⟩ := okWide_slice Try.underlying22 (hval 0 22 v0 rfl rfl)
  obtain ⟨z0, f0⟩ := open_bytes (W := W) k0
  clear hA0 hval0
  refine (walk a0 n0 c0 z0 W f0).mono fun e W' ⟨he, bel⟩ => ?_
  subst he
  exact ⟨_, rfl, _, _, _, [], _, [], hW', trodAll_mk1 (shut_bool Try.underlying4 _), (trodAll_cons_mk (Below.trod laidOut (by kernel_rfl) (of_decide_eq_true (by kernel_rfl)) k0 bel lt0) trodAll_mk0), rfl, bel.frame _, fun h => by cases h⟩
theorem closed : joinedFacts Try.pinned.checked.prog 9 Try.f9 Rows.fnCallDropSpec Rows.fnCallDropRow = true := by
  unfold joinedFacts
  repeat' (with_reducible refine Bool.and_eq_true_iff.2 ⟨?_, ?_⟩)
  · kernel_rfl
  · exact laidOut
  · kernel_rfl
  · kernel_rfl
  · kernel_rfl
  · kernel_rfl
  · kernel_rfl
  · kernel_rfl
  · kernel_rfl
  · kernel_rfl
  · kernel_rfl
  · kernel_rfl
  · kernel_rfl
  · kernel_rfl
  · kernel_rfl
  · kernel_rfl
  · kernel_rfl
  · kernel_rfl
  · kernel_rfl
  · kernel_rfl
  · kernel_rfl
  · kernel_rfl
  · kernel_rfl
  · kernel_rfl
  · kernel_rfl
  · exact heavy.1
  · exact heavy.2.1
  · exact heavy.2.2
  · kernel_rfl
  · kernel_rfl
  · kernel_rfl
  · kernel_rfl
theorem over : Rows.fnCallDropRow.holds Try.pinned (OpenSpec.ofChange Rows.fnCallDropSpec) :=
  OpenClaim.holds_of_wide 9 Try.f9 rfl rfl rfl rfl rfl rfl rfl ⟨rfl, rfl, rfl, rfl, rfl⟩ rfl rfl rfl rfl rfl (by kernel_rfl) Try.func9 closed
    (of_decide_eq_true (by kernel_rfl)) (by unfold Func.isWrapper; first | (rw [if_pos (by decide +kernel)]; kernel_rfl) | (rw [if_neg (by decide +kernel)]; exact ⟨rfl, rfl⟩))
    (fun os started H enc _ => lifted os started H enc)
theorem proved : Rows.FnCallDropSaid := over
#print axioms proved
end Go.Proofs.Ytcickfahpcmcdaa.callDrop
