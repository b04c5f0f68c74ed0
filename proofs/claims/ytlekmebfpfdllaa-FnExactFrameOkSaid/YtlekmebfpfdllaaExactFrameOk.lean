/- FnExactFrameOk returns true for all arguments: the program's FrameOk and the reference's answer the same. No condition. -/
import Derived.Test.YtlekmebfpfdllaaFrame
import Derived.Test.Ytlekmebfpfdllaa5a
import Derived.Test.Ytlekmebfpfdllaa5o2
namespace Go.Proofs.Ytlekmebfpfdllaa.exactFrameOk
open Go.ChangeShapes Go.WideShapes Go.ChangeAt Go.RowKit
set_option linter.unusedSimpArgs false
set_option linter.unusedVariables false
set_option maxRecDepth 100000 in
set_option maxHeartbeats 4000000 in
theorem walk (A : Option Addr) (n c : Nat) (xs : List (List Int)) (E : Option Addr) (p d : Nat) (ys : List (List Int)) (w : World) (fxs : RdT w A n xs ∧ n ≤ c ∧ c ≤ maxLen ∧ ∀ r ∈ xs, r.length ≤ maxLen) (fys : RdT w E p ys ∧ p ≤ d ∧ d ≤ maxLen ∧ ∀ r ∈ ys, r.length ≤ maxLen) :
    Calls Try.prog 6 #[.slice A n c, .slice E p d] w fun x w' => x = .returned (.bool true) ∧ Below w.heap.size w w' := by
  obtain ⟨hxs, hxsc, hxsm, hxsr⟩ := fxs
  have Lxs := hxs.len
  have HRxs := Lib.hid hxsr; clear hxsr
  obtain ⟨hys, hysc, hysm, hysr⟩ := fys
  have Lys := hys.len
  have HRys := Lib.hid hysr; clear hysr
  obtain ⟨W0, HW0⟩ : ∃ W0, Hid (W0 = w) := ⟨_, rfl⟩
  have V0 : Below w.heap.size w W0 := by rw [HW0.out]; exact Below.refl _ _
  go_enter Try.func6, Try.ntmps6
  go_wp2_with fail
  rw [← HW0.out]
  refine (szIntSS_any A n c xs 1048576 _ (hxs.below V0 (Nat.le_refl _)) (by omega) HRxs.out (by omega) (by omega)).mono ?_
  rintro r w1 ⟨r1, rfl, hr1, q1⟩
  obtain ⟨m1, hm1⟩ := q1
  have b1 : Below W0.heap.size W0 w1 := by rw [hm1]; exact below_drewN (Below.refl _ _) _
  clear hm1
  have z1 := b1.size
  have V1 := bstep V0 b1
  by_cases hneg1 : r1 < 0
  · go_wp2
    go_ret
    exact ⟨rfl, V1⟩
  obtain ⟨hra1, hrb1⟩ := hr1.out (by omega)
  clear hr1
  go_wp2_with fail
  refine (szIntSS_any E p d ys r1 _ (hys.below V1 (Nat.le_refl _)) (by omega) HRys.out (by omega) (by omega)).mono ?_
  rintro r w2 ⟨r2, rfl, hr2, q2⟩
  obtain ⟨m2, hm2⟩ := q2
  have b2 : Below w1.heap.size w1 w2 := by rw [hm2]; exact below_drewN (Below.refl _ _) _
  clear hm2
  have z2 := b2.size
  have V2 := bstep V1 b2
  by_cases hneg2 : r2 < 0
  · go_wp2
    go_ret
    exact ⟨rfl, V2⟩
  obtain ⟨hra2, hrb2⟩ := hr2.out (by omega)
  clear hr2
  have Sxs : Hid (SmT xs) := ⟨by rw [Lxs.out]; omega, by omega⟩
  have Sys : Hid (SmT ys) := ⟨by rw [Lys.out]; omega, by omega⟩
  go_wp2_with fail
  refine (toIntSS_any A n c xs _ (hxs.below V2 (Nat.le_refl _)) Sxs.out).mono ?_
  rintro r w3 ⟨A3, c3, rfl, h3, b3⟩
  have z3 := b3.size
  have V3 := bstep V2 b3
  have s0__3 := h3
  go_wp2_with fail
  refine (toIntSS_any E p d ys _ (hys.below V3 (Nat.le_refl _)) Sys.out).mono ?_
  rintro r w4 ⟨A4, c4, rfl, h4, b4⟩
  have z4 := b4.size
  have V4 := bstep V3 b4
  have s0__4 := s0__3.below b4 (Nat.le_refl _)
  have s1__4 := h4
  go_wp2_with fail
  refine (spec_FrameOk A3 n c3 xs A4 p c4 ys w4 s0__4.rd s1__4.rd s0__4.cap.1 s1__4.cap.1 Sxs.out Sys.out).mono ?_
  rintro r w5 ⟨v5, rfl, hv5, b5⟩
  have z5 := b5.size
  have V5 := bstep V4 b5
  have s0__5 := s0__4.below b5 (Nat.le_refl _)
  have s1__5 := s1__4.below b5 (Nat.le_refl _)
  go_wp2_with fail
  refine (toIntSS_any A n c xs _ (hxs.below V5 (Nat.le_refl _)) Sxs.out).mono ?_
  rintro r w6 ⟨A6, c6, rfl, h6, b6⟩
  have z6 := b6.size
  have V6 := bstep V5 b6
  have s0__6 := s0__5.below b6 (Nat.le_refl _)
  have s1__6 := s1__5.below b6 (Nat.le_refl _)
  have x0__6 := h6
  go_wp2_with fail
  refine (toIntSS_any E p d ys _ (hys.below V6 (Nat.le_refl _)) Sys.out).mono ?_
  rintro r w7 ⟨A7, c7, rfl, h7, b7⟩
  have z7 := b7.size
  have V7 := bstep V6 b7
  have s0__7 := s0__6.below b7 (Nat.le_refl _)
  have s1__7 := s1__6.below b7 (Nat.le_refl _)
  have x0__7 := x0__6.below b7 (Nat.le_refl _)
  have x1__7 := h7
  go_wp2_with fail
  refine (impl_FrameOk A6 n c6 xs A7 p c7 ys w7 x0__7.rd x1__7.rd x0__7.cap.1 x1__7.cap.1 Sxs.out Sys.out).mono ?_
  rintro r w8 ⟨v8, rfl, hv8, b8⟩
  have z8 := b8.size
  have V8 := bstep V7 b8
  have s0__8 := s0__7.below b8 (Nat.le_refl _)
  have s1__8 := s1__7.below b8 (Nat.le_refl _)
  have x0__8 := x0__7.below b8 (Nat.le_refl _)
  have x1__8 := x1__7.below b8 (Nat.le_refl _)
  have hvv : v8 = v5 := by rw [Bool.eq_iff_iff, hv8.out, hv5.out]
  subst hvv
  have hvw : (v8 != v8) = false := by simp
  go_wp2_with fail
  refine (toIntSS_any A n c xs _ (hxs.below V8 (Nat.le_refl _)) Sxs.out).mono ?_
  rintro r w9 ⟨A9, c9, rfl, h9, b9⟩
  have z9 := b9.size
  have V9 := bstep V8 b9
  have s0__9 := s0__8.below b9 (Nat.le_refl _)
  have s1__9 := s1__8.below b9 (Nat.le_refl _)
  have x0__9 := x0__8.below b9 (Nat.le_refl _)
  have x1__9 := x1__8.below b9 (Nat.le_refl _)
  have z0__9 := h9
  go_wp2_with fail
  refine (retB_bel (eqIntSS_any A6 A9 n n c6 c9 (xs) (xs) w9 x0__9.rd z0__9.rd Sxs.out Sxs.out)).mono ?_
  rintro r w10 ⟨e10, rfl, he10, b10⟩
  have z10 := b10.size
  have V10 := bstep V9 b10
  have s0__10 := s0__9.below b10 (Nat.le_refl _)
  have s1__10 := s1__9.below b10 (Nat.le_refl _)
  have x0__10 := x0__9.below b10 (Nat.le_refl _)
  have x1__10 := x1__9.below b10 (Nat.le_refl _)
  have z0__10 := z0__9.below b10 (Nat.le_refl _)
  obtain rfl := he10.out.2 rfl
  clear he10
  go_wp2_with fail
  refine (toIntSS_any E p d ys _ (hys.below V10 (Nat.le_refl _)) Sys.out).mono ?_
  rintro r w11 ⟨A11, c11, rfl, h11, b11⟩
  have z11 := b11.size
  have V11 := bstep V10 b11
  have s0__11 := s0__10.below b11 (Nat.le_refl _)
  have s1__11 := s1__10.below b11 (Nat.le_refl _)
  have x0__11 := x0__10.below b11 (Nat.le_refl _)
  have x1__11 := x1__10.below b11 (Nat.le_refl _)
  have z0__11 := z0__10.below b11 (Nat.le_refl _)
  have z1__11 := h11
  go_wp2_with fail
  refine (retB_bel (eqIntSS_any A7 A11 p p c7 c11 (ys) (ys) w11 x1__11.rd z1__11.rd Sys.out Sys.out)).mono ?_
  rintro r w12 ⟨e12, rfl, he12, b12⟩
  have z12 := b12.size
  have V12 := bstep V11 b12
  have s0__12 := s0__11.below b12 (Nat.le_refl _)
  have s1__12 := s1__11.below b12 (Nat.le_refl _)
  have x0__12 := x0__11.below b12 (Nat.le_refl _)
  have x1__12 := x1__11.below b12 (Nat.le_refl _)
  have z0__12 := z0__11.below b12 (Nat.le_refl _)
  have z1__12 := z1__11.below b12 (Nat.le_refl _)
  obtain rfl := he12.out.2 rfl
  clear he12
  go_wp2
  go_ret
  exact ⟨rfl, V12⟩
set_option maxRecDepth 100000 in
theorem lifted (os : Os) (started : os.Started) (H : Type) (enc : TypeId × Value → H) :
    ReturnsInHanded {} Try.checked os 6 .any (Rows.fnExactFrameOkSpec.pre6 enc Try.prog Try.f6 Rows.fnExactFrameOkRow.domain false) (Rows.fnExactFrameOkSpec.post enc Try.prog Try.f6 false true false false) := by
  refine returnsInHanded_of_change (C := Try.checked) own started (by kernel_rfl) Try.func6
    (ChangeSpec.witness6 (enc := enc) (C := Try.checked) false ⟨#[], #[.slice none 0 0, .slice none 0 0], []⟩ 8 (by kernel_rfl) (by kernel_rfl) (by kernel_rfl) (by kernel_rfl)) ?_
  intro W base args ds gs before hval0 hW hcnd _
  have hval : ∀ (j : Nat) t v, Try.f6.params[j]? = some t → args[j]? = some v → Value.okWide Try.prog W .any base t v := hval0
  have hW' := hW
  obtain ⟨p, q, hA0, hV, rfl, hfz, hnd⟩ := hW
  have hA : DataW.TrodAll enc Try.prog W 0 (fun _ => true) true Try.f6.params.toList args.toList ds p := hA0
  rw [Try.params6] at hA hval
  obtain ⟨v0, vs0, d0, ds0, p0, q0, hargs, rfl, rfl, k0, r0⟩ := trodAll_cons hA
  obtain ⟨v1, vs1, d1, ds1, p1, q1, rfl, rfl, rfl, k1, r1⟩ := trodAll_cons r0
  obtain ⟨rfl, rfl, rfl⟩ := trodAll_nil r1
  obtain rfl : args = #[v0, v1] := by cases args; simp_all
  obtain ⟨rfl, rfl⟩ := trodVars_none hV
  have lt0 : ∀ x ∈ p0, x.block < W.heap.size := by obtain ⟨m, hm⟩ := k0; exact DataW.trod_lt m _ _ _ hm
  obtain ⟨a0, n0, c0, rfl⟩ := okWide_slice Try.underlying22 (hval 0 22 v0 rfl rfl)
  obtain ⟨z0, f0⟩ := open_rows (W := W) k0
  have lt1 : ∀ x ∈ p1, x.block < W.heap.size := by obtain ⟨m, hm⟩ := k1; exact DataW.trod_lt m _ _ _ hm
  obtain ⟨a1, n1, c1, rfl⟩ := okWide_slice Try.underlying22 (hval 1 22 v1 rfl rfl)
  obtain ⟨z1, f1⟩ := open_rows (W := W) k1
  clear hA0 hval0
  refine (walk a0 n0 c0 z0 a1 n1 c1 z1 W f0 f1).mono fun e W' ⟨he, bel⟩ => ?_
  subst he
  exact ⟨_, rfl, _, _, _, [], _, [], hW', trodAll_mk1 (shut_bool Try.underlying4 _), (trodAll_cons_mk (Below.trod laidOut (by kernel_rfl) (of_decide_eq_true (by kernel_rfl)) k0 bel lt0) (trodAll_cons_mk (Below.trod laidOut (by kernel_rfl) (of_decide_eq_true (by kernel_rfl)) k1 bel lt1) trodAll_mk0)), rfl, bel.frame _, fun h => by cases h⟩
theorem closed : joinedFacts Try.pinned.checked.prog 6 Try.f6 Rows.fnExactFrameOkSpec Rows.fnExactFrameOkRow = true := by
  unfold joinedFacts
  repeat' (with_reducible refine Bool.and_eq_true_iff.2 ⟨?_, ?_⟩)
  · kernel_rfl
  · exact laidOut
  · kernel_rfl
  · kernel_rfl
  · kernel_rfl
  · kernel_rfl
  · kernel_rfl
  · kernel_rfl
  · kernel_rfl
  · kernel_rfl
  · kernel_rfl
  · kernel_rfl
  · kernel_rfl
  · kernel_rfl
  · kernel_rfl
  · kernel_rfl
  · kernel_rfl
  · kernel_rfl
  · kernel_rfl
  · kernel_rfl
  · kernel_rfl
  · kernel_rfl
  · kernel_rfl
  · kernel_rfl
  · kernel_rfl
  · exact heavy.1
  · exact heavy.2.1
  · exact heavy.2.2
  · kernel_rfl
  · kernel_rfl
  · kernel_rfl
  · kernel_rfl
theorem over : Rows.fnExactFrameOkRow.holds Try.pinned (OpenSpec.ofChange Rows.fnExactFrameOkSpec) :=
  OpenClaim.holds_of_wide 6 Try.f6 rfl rfl rfl rfl rfl rfl rfl ⟨rfl, rfl, rfl, rfl, rfl⟩ rfl rfl rfl rfl rfl (by kernel_rfl) Try.func6 closed
    (of_decide_eq_true (by kernel_rfl)) (by unfold Func.isWrapper; first | (rw [if_pos (by decide +kernel)]; kernel_rfl) | (rw [if_neg (by decide +kernel)]; exact ⟨rfl, rfl⟩))
    (fun os started H enc _ => lifted os started H enc)
theorem proved : Rows.FnExactFrameOkSaid := over
#print axioms proved
end Go.Proofs.Ytlekmebfpfdllaa.exactFrameOk
