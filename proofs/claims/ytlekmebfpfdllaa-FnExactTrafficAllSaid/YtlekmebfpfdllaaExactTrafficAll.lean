/- FnExactTrafficAll returns true for all arguments: the program's TrafficAll and the reference's answer the same. No condition. -/
import Derived.Test.YtlekmebfpfdllaaFrame
import Derived.Test.Ytlekmebfpfdllaa5a
import Derived.Test.Ytlekmebfpfdllaa5t
namespace Go.Proofs.Ytlekmebfpfdllaa.exactTrafficAll
open Go.ChangeShapes Go.WideShapes Go.ChangeAt Go.RowKit
set_option linter.unusedSimpArgs false
set_option linter.unusedVariables false
set_option maxRecDepth 100000 in
set_option maxHeartbeats 4000000 in
theorem walk (A : Option Addr) (n c : Nat) (xs : List (List Int)) (w : World) (fxs : RdT w A n xs ∧ n ≤ c ∧ c ≤ maxLen ∧ ∀ r ∈ xs, r.length ≤ maxLen) :
    Calls Try.prog 4 #[.slice A n c] w fun x w' => x = .returned (.bool true) ∧ Below w.heap.size w w' := by
  obtain ⟨hxs, hxsc, hxsm, hxsr⟩ := fxs
  have Lxs := hxs.len
  have HRxs := Lib.hid hxsr; clear hxsr
  obtain ⟨W0, HW0⟩ : ∃ W0, Hid (W0 = w) := ⟨_, rfl⟩
  have V0 : Below w.heap.size w W0 := by rw [HW0.out]; exact Below.refl _ _
  obtain ⟨VV, HVV⟩ : ∃ VV, Hid (allL xs = VV) := ⟨_, rfl⟩
  have hvv : (VV != VV) = false := by simp
  go_enter Try.func4, Try.ntmps4
  go_wp2_with fail
  rw [← HW0.out]
  refine (szIntSS_any A n c xs 1048576 _ (hxs.below V0 (Nat.le_refl _)) (by omega) HRxs.out (by omega) (by omega)).mono ?_
  rintro r w1 ⟨r1, rfl, hr1, q1⟩
  obtain ⟨m1, hm1⟩ := q1
  have b1 : Below W0.heap.size W0 w1 := by rw [hm1]; exact below_drewN (Below.refl _ _) _
  clear hm1
  have z1 := b1.size
  have V1 := bstep V0 b1
  by_cases hneg1 : r1 < 0
  · go_wp2
    go_ret
    exact ⟨rfl, V1⟩
  obtain ⟨hra1, hrb1⟩ := hr1.out (by omega)
  clear hr1
  have Sxs : Hid (SmT xs) := ⟨by rw [Lxs.out]; omega, by omega⟩
  go_wp2_with fail
  refine (toIntSS_any A n c xs _ (hxs.below V1 (Nat.le_refl _)) Sxs.out).mono ?_
  rintro r w2 ⟨A2, c2, rfl, h2, b2⟩
  have z2 := b2.size
  have V2 := bstep V1 b2
  have s0__2 := h2
  go_wp2_with fail
  refine (spec_TrafficAll A2 n c2 xs w2 s0__2.rd s0__2.cap.1 Sxs.out).mono ?_
  rintro r w3 ⟨rfl, b3⟩
  have z3 := b3.size
  have V3 := bstep V2 b3
  have s0__3 := s0__2.below b3 (Nat.le_refl _)
  rw [HVV.out]
  go_wp2_with fail
  refine (toIntSS_any A n c xs _ (hxs.below V3 (Nat.le_refl _)) Sxs.out).mono ?_
  rintro r w4 ⟨A4, c4, rfl, h4, b4⟩
  have z4 := b4.size
  have V4 := bstep V3 b4
  have s0__4 := s0__3.below b4 (Nat.le_refl _)
  have x0__4 := h4
  go_wp2_with fail
  refine (impl_TrafficAll A4 n c4 xs w4 x0__4.rd x0__4.cap.1 Sxs.out).mono ?_
  rintro r w5 ⟨rfl, b5⟩
  have z5 := b5.size
  have V5 := bstep V4 b5
  have s0__5 := s0__4.below b5 (Nat.le_refl _)
  have x0__5 := x0__4.below b5 (Nat.le_refl _)
  rw [HVV.out]
  go_wp2_with fail
  refine (toIntSS_any A n c xs _ (hxs.below V5 (Nat.le_refl _)) Sxs.out).mono ?_
  rintro r w6 ⟨A6, c6, rfl, h6, b6⟩
  have z6 := b6.size
  have V6 := bstep V5 b6
  have s0__6 := s0__5.below b6 (Nat.le_refl _)
  have x0__6 := x0__5.below b6 (Nat.le_refl _)
  have z0__6 := h6
  go_wp2_with fail
  refine (retB_bel (eqIntSS_any A4 A6 n n c4 c6 (xs) (xs) w6 x0__6.rd z0__6.rd Sxs.out Sxs.out)).mono ?_
  rintro r w7 ⟨e7, rfl, he7, b7⟩
  have z7 := b7.size
  have V7 := bstep V6 b7
  have s0__7 := s0__6.below b7 (Nat.le_refl _)
  have x0__7 := x0__6.below b7 (Nat.le_refl _)
  have z0__7 := z0__6.below b7 (Nat.le_refl _)
  obtain rfl := he7.out.2 rfl
  clear he7
  go_wp2
  go_ret
  exact ⟨rfl, V7⟩
set_option maxRecDepth 100000 in
theorem lifted (os : Os) (started : os.Started) (H : Type) (enc : TypeId × Value → H) :
    ReturnsInHanded {} Try.checked os 4 .any (Rows.fnExactTrafficAllSpec.pre6 enc Try.prog Try.f4 Rows.fnExactTrafficAllRow.domain false) (Rows.fnExactTrafficAllSpec.post enc Try.prog Try.f4 false true false false) := by
  refine returnsInHanded_of_change (C := Try.checked) own started (by kernel_rfl) Try.func4
    (ChangeSpec.witness6 (enc := enc) (C := Try.checked) false ⟨#[], #[.slice none 0 0], []⟩ 8 (by kernel_rfl) (by kernel_rfl) (by kernel_rfl) (by kernel_rfl)) ?_
  intro W base args ds gs before hval0 hW hcnd _
  have hval : ∀ (j : Nat) t v, Try.f4.params[j]? = some t → args[j]? = some v → Value.okWide Try.prog W .any base t v := hval0
  have hW' := hW
  obtain ⟨p, q, hA0, hV, rfl, hfz, hnd⟩ := hW
  have hA : DataW.TrodAll enc Try.prog W 0 (fun _ => true) true Try.f4.params.toList args.toList ds p := hA0
  rw [Try.params4] at hA hval
  obtain ⟨v0, vs0, d0, ds0, p0, q0, hargs, rfl, rfl, k0, r0⟩ := trodAll_cons hA
  obtain ⟨rfl, rfl, rfl⟩ := trodAll_nil r0
  obtain rfl : args = #[v0] := by cases args; simp_all
  obtain ⟨rfl, rfl⟩ := trodVars_none hV
  have lt0 : ∀ x ∈ p0, x.block < W.heap.size := by obtain ⟨m, hm⟩ := k0; exact DataW.trod_lt m _ _ _ hm
  obtain ⟨a0, n0, c0, rfl⟩ := okWide_slice Try.underlying22 (hval 0 22 v0 rfl rfl)
  obtain ⟨z0, f0⟩ := open_rows (W := W) k0
  clear hA0 hval0
  refine (walk a0 n0 c0 z0 W f0).mono fun e W' ⟨he, bel⟩ => ?_
  subst he
  exact ⟨_, rfl, _, _, _, [], _, [], hW', trodAll_mk1 (shut_bool Try.underlying4 _), (trodAll_cons_mk (Below.trod laidOut (by kernel_rfl) (of_decide_eq_true (by kernel_rfl)) k0 bel lt0) trodAll_mk0), rfl, bel.frame _, fun h => by cases h⟩
theorem closed : joinedFacts Try.pinned.checked.prog 4 Try.f4 Rows.fnExactTrafficAllSpec Rows.fnExactTrafficAllRow = true := by
  unfold joinedFacts
  repeat' (with_reducible refine Bool.and_eq_true_iff.2 ⟨?_, ?_⟩)
  · kernel_rfl
  · exact laidOut
  · kernel_rfl
  · kernel_rfl
  · kernel_rfl
  · kernel_rfl
  · kernel_rfl
  · kernel_rfl
  · kernel_rfl
  · kernel_rfl
  · kernel_rfl
  · kernel_rfl
  · kernel_rfl
  · kernel_rfl
  · kernel_rfl
  · kernel_rfl
  · kernel_rfl
  · kernel_rfl
  · kernel_rfl
  · kernel_rfl
  · kernel_rfl
  · kernel_rfl
  · kernel_rfl
  · kernel_rfl
  · kernel_rfl
  · exact heavy.1
  · exact heavy.2.1
  · exact heavy.2.2
  · kernel_rfl
  · kernel_rfl
  · kernel_rfl
  · kernel_rfl
theorem over : Rows.fnExactTrafficAllRow.holds Try.pinned (OpenSpec.ofChange Rows.fnExactTrafficAllSpec) :=
  OpenClaim.holds_of_wide 4 Try.f4 rfl rfl rfl rfl rfl rfl rfl ⟨rfl, rfl, rfl, rfl, rfl⟩ rfl rfl rfl rfl rfl (by kernel_rfl) Try.func4 closed
    (of_decide_eq_true (by kernel_rfl)) (by unfold Func.isWrapper; first | (rw [if_pos (by decide +kernel)]; kernel_rfl) | (rw [if_neg (by decide +kernel)]; exact ⟨rfl, rfl⟩))
    (fun os started H enc _ => lifted os started H enc)
theorem proved : Rows.FnExactTrafficAllSaid := over
#print axioms proved
end Go.Proofs.Ytlekmebfpfdllaa.exactTrafficAll
