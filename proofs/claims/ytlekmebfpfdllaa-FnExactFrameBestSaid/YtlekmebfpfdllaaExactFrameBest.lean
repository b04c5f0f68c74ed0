/- FnExactFrameBest returns true for all arguments: the program's FrameBest and the reference's answer the same. No condition. -/
import Derived.Test.YtlekmebfpfdllaaFrame
import Derived.Test.Ytlekmebfpfdllaa5a
import Derived.Test.Ytlekmebfpfdllaa5x3
namespace Go.Proofs.Ytlekmebfpfdllaa.exactFrameBest
open Go.ChangeShapes Go.WideShapes Go.ChangeAt Go.RowKit
set_option linter.unusedSimpArgs false
set_option linter.unusedVariables false
set_option maxRecDepth 100000 in
set_option maxHeartbeats 4000000 in
theorem walk (A : Option Addr) (n c : Nat) (xs : List (List Int)) (w : World) (fxs : RdT w A n xs ∧ n ≤ c ∧ c ≤ maxLen ∧ ∀ r ∈ xs, r.length ≤ maxLen) :
    Calls Try.prog 9 #[.slice A n c] w fun x w' => x = .returned (.bool true) ∧ Below w.heap.size w w' := by
  obtain ⟨hxs, hxsc, hxsm, hxsr⟩ := fxs
  have Lxs := hxs.len
  have HRxs := Lib.hid hxsr; clear hxsr
  obtain ⟨W0, HW0⟩ : ∃ W0, Hid (W0 = w) := ⟨_, rfl⟩
  have V0 : Below w.heap.size w W0 := by rw [HW0.out]; exact Below.refl _ _
  go_enter Try.func9, Try.ntmps9
  go_wp2_with fail
  rw [← HW0.out]
  refine (szIntSS_any A n c xs 1048576 _ (hxs.below V0 (Nat.le_refl _)) (by omega) HRxs.out (by omega) (by omega)).mono ?_
  rintro r w1 ⟨r1, rfl, hr1, q1⟩
  obtain ⟨m1, hm1⟩ := q1
  have b1 : Below W0.heap.size W0 w1 := by rw [hm1]; exact below_drewN (Below.refl _ _) _
  clear hm1
  have z1 := b1.size
  have V1 := bstep V0 b1
  by_cases hneg1 : r1 < 0
  · go_wp2
    go_ret
    exact ⟨rfl, V1⟩
  obtain ⟨hra1, hrb1⟩ := hr1.out (by omega)
  clear hr1
  have Sxs : Hid (SmT xs) := ⟨by rw [Lxs.out]; omega, by omega⟩
  go_wp2_with fail
  refine (toIntSS_any A n c xs _ (hxs.below V1 (Nat.le_refl _)) Sxs.out).mono ?_
  rintro r w2 ⟨A2, c2, rfl, h2, b2⟩
  have z2 := b2.size
  have V2 := bstep V1 b2
  have s0__2 := h2
  go_wp2_with fail
  refine (spec_FrameBest A2 n c2 xs w2 s0__2.rd s0__2.cap.1 Sxs.out).mono ?_
  rintro r w3 ⟨A3, n3, c3, rfl, h3, b3⟩
  have z3 := b3.size
  have V3 := bstep V2 b3
  have s0__3 := s0__2.below b3 (Nat.le_refl _)
  have W__3 := h3
  have HL3 := h3.len
  have HS3 : Hid (SmT (bestL xs)) := best_sm Sxs.out
  go_wp2_with fail
  refine (toIntSS_any A n c xs _ (hxs.below V3 (Nat.le_refl _)) Sxs.out).mono ?_
  rintro r w4 ⟨A4, c4, rfl, h4, b4⟩
  have z4 := b4.size
  have V4 := bstep V3 b4
  have s0__4 := s0__3.below b4 (Nat.le_refl _)
  have W__4 := W__3.below b4 (Nat.le_refl _)
  have x0__4 := h4
  go_wp2_with fail
  refine (impl_FrameBest A4 n c4 xs w4 x0__4.rd x0__4.cap.1 Sxs.out).mono ?_
  rintro r w5 ⟨A5, n5, c5, rfl, h5, b5⟩
  have z5 := b5.size
  have V5 := bstep V4 b5
  have s0__5 := s0__4.below b5 (Nat.le_refl _)
  have W__5 := W__4.below b5 (Nat.le_refl _)
  have x0__5 := x0__4.below b5 (Nat.le_refl _)
  have G__5 := h5
  have HL5 := h5.len
  have HS5 : Hid (SmT (bestL xs)) := best_sm Sxs.out
  go_wp2_with fail
  refine (retB_bel (eqIntSS_any A5 A3 n5 n3 c5 c3 (bestL xs) (bestL xs) w5 G__5.rd W__5.rd HS5.out HS3.out)).mono ?_
  rintro r w6 ⟨e6, rfl, he6, b6⟩
  have z6 := b6.size
  have V6 := bstep V5 b6
  have s0__6 := s0__5.below b6 (Nat.le_refl _)
  have W__6 := W__5.below b6 (Nat.le_refl _)
  have x0__6 := x0__5.below b6 (Nat.le_refl _)
  have G__6 := G__5.below b6 (Nat.le_refl _)
  obtain rfl := he6.out.2 rfl
  clear he6
  go_wp2_with fail
  refine (toIntSS_any A n c xs _ (hxs.below V6 (Nat.le_refl _)) Sxs.out).mono ?_
  rintro r w7 ⟨A7, c7, rfl, h7, b7⟩
  have z7 := b7.size
  have V7 := bstep V6 b7
  have s0__7 := s0__6.below b7 (Nat.le_refl _)
  have W__7 := W__6.below b7 (Nat.le_refl _)
  have x0__7 := x0__6.below b7 (Nat.le_refl _)
  have G__7 := G__6.below b7 (Nat.le_refl _)
  have z0__7 := h7
  go_wp2_with fail
  refine (retB_bel (eqIntSS_any A4 A7 n n c4 c7 (xs) (xs) w7 x0__7.rd z0__7.rd Sxs.out Sxs.out)).mono ?_
  rintro r w8 ⟨e8, rfl, he8, b8⟩
  have z8 := b8.size
  have V8 := bstep V7 b8
  have s0__8 := s0__7.below b8 (Nat.le_refl _)
  have W__8 := W__7.below b8 (Nat.le_refl _)
  have x0__8 := x0__7.below b8 (Nat.le_refl _)
  have G__8 := G__7.below b8 (Nat.le_refl _)
  have z0__8 := z0__7.below b8 (Nat.le_refl _)
  obtain rfl := he8.out.2 rfl
  clear he8
  have hfb0 := Sxs.out.2
  go_wp2_with fail
  refine (markIntSS_any A4 n c4 (xs) (1) _ _ w8 x0__8 Sxs.out (by omega) (by omega)).mono ?_
  rintro r w9 ⟨zs9, rfl, HM9, h9, K9⟩
  have z9 := K9.size
  have V9 := Kb.below_of V8 K9 V8.size (by intro g h1 h2; have := V0.size; omega)
  have s0__9 := s0__8.kb K9 (by intro g h1 h2 h3; omega)
  have W__9 := W__8.kb K9 (by intro g h1 h2 h3; omega)
  have x0__9 := h9
  have G__9 := G__8.kb K9 (by intro g h1 h2 h3; omega)
  have z0__9 := z0__8.kb K9 (by intro g h1 h2 h3; omega)
  go_wp2_with fail
  refine (retB_bel (eqIntSS_any A5 A3 n5 n3 c5 c3 (bestL xs) (bestL xs) w9 G__9.rd W__9.rd HS5.out HS3.out)).mono ?_
  rintro r w10 ⟨e10, rfl, he10, b10⟩
  have z10 := b10.size
  have V10 := bstep V9 b10
  have s0__10 := s0__9.below b10 (Nat.le_refl _)
  have W__10 := W__9.below b10 (Nat.le_refl _)
  have x0__10 := x0__9.below b10 (Nat.le_refl _)
  have G__10 := G__9.below b10 (Nat.le_refl _)
  have z0__10 := z0__9.below b10 (Nat.le_refl _)
  obtain rfl := he10.out.2 rfl
  clear he10
  have hfg := HS5.out.2
  go_wp2_with fail
  refine (markIntSS_any A5 n5 c5 (bestL xs) (1) _ _ w10 G__10 HS5.out (by omega) (by omega)).mono ?_
  rintro r w11 ⟨zs11, rfl, HM11, h11, K11⟩
  have z11 := K11.size
  have V11 := Kb.below_of V10 K11 V10.size (by intro g h1 h2; have := V0.size; omega)
  have s0__11 := s0__10.kb K11 (by intro g h1 h2 h3; omega)
  have W__11 := W__10.kb K11 (by intro g h1 h2 h3; omega)
  have x0__11 := x0__10.kb K11 (by intro g h1 h2 h3; omega)
  have G__11 := h11
  have z0__11 := z0__10.kb K11 (by intro g h1 h2 h3; omega)
  obtain ⟨FG, HFG⟩ : ∃ FG, Hid (flat (bestL xs) = FG) := ⟨_, rfl⟩
  rw [HFG.out] at hfg
  rw [HFG.out]
  have hfgz : ((1 : Int) + (FG : Int) != 1 + (FG : Int)) = false := by simp
  have hsm11_ : Hid (SmT zs11) := sm_same HM11.out.1 HS5.out
  have hfl11_ := HM11.out.1.flatAll
  go_wp2_with fail
  refine (quiet_bel (heldIntSS_any A5 n5 c5 zs11 1 w11 G__11.rd HM11.out.2 hsm11_.out (by omega) (by omega))).mono ?_
  rintro r w12 ⟨rfl, b12⟩
  have z12 := b12.size
  have V12 := bstep V11 b12
  have s0__12 := s0__11.below b12 (Nat.le_refl _)
  have W__12 := W__11.below b12 (Nat.le_refl _)
  have x0__12 := x0__11.below b12 (Nat.le_refl _)
  have G__12 := G__11.below b12 (Nat.le_refl _)
  have z0__12 := z0__11.below b12 (Nat.le_refl _)
  rw [hfl11_]
  rw [HFG.out]
  go_wp2_with fail
  refine (toIntSS_any A n c xs _ (hxs.below V12 (Nat.le_refl _)) Sxs.out).mono ?_
  rintro r w13 ⟨A13, c13, rfl, h13, b13⟩
  have z13 := b13.size
  have V13 := bstep V12 b13
  have s0__13 := s0__12.below b13 (Nat.le_refl _)
  have W__13 := W__12.below b13 (Nat.le_refl _)
  have x0__13 := x0__12.below b13 (Nat.le_refl _)
  have G__13 := G__12.below b13 (Nat.le_refl _)
  have z0__13 := z0__12.below b13 (Nat.le_refl _)
  have y0__13 := h13
  go_wp2_with fail
  refine (impl_FrameBest A13 n c13 xs w13 y0__13.rd y0__13.cap.1 Sxs.out).mono ?_
  rintro r w14 ⟨A14, n14, c14, rfl, h14, b14⟩
  have z14 := b14.size
  have V14 := bstep V13 b14
  have s0__14 := s0__13.below b14 (Nat.le_refl _)
  have W__14 := W__13.below b14 (Nat.le_refl _)
  have x0__14 := x0__13.below b14 (Nat.le_refl _)
  have G__14 := G__13.below b14 (Nat.le_refl _)
  have z0__14 := z0__13.below b14 (Nat.le_refl _)
  have y0__14 := y0__13.below b14 (Nat.le_refl _)
  have H__14 := h14
  have HL14 := h14.len
  have HS14 : Hid (SmT (bestL xs)) := best_sm Sxs.out
  go_wp2_with fail
  refine (retB_bel (eqIntSS_any A14 A3 n14 n3 c14 c3 (bestL xs) (bestL xs) w14 H__14.rd W__14.rd HS14.out HS3.out)).mono ?_
  rintro r w15 ⟨e15, rfl, he15, b15⟩
  have z15 := b15.size
  have V15 := bstep V14 b15
  have s0__15 := s0__14.below b15 (Nat.le_refl _)
  have W__15 := W__14.below b15 (Nat.le_refl _)
  have x0__15 := x0__14.below b15 (Nat.le_refl _)
  have G__15 := G__14.below b15 (Nat.le_refl _)
  have z0__15 := z0__14.below b15 (Nat.le_refl _)
  have y0__15 := y0__14.below b15 (Nat.le_refl _)
  have H__15 := H__14.below b15 (Nat.le_refl _)
  obtain rfl := he15.out.2 rfl
  clear he15
  have hsm15_ : Hid (SmT zs11) := sm_same HM11.out.1 HS5.out
  have hfl15_ := HM11.out.1.flatAll
  go_wp2_with fail
  refine (quiet_bel (heldIntSS_any A5 n5 c5 zs11 1 w15 G__15.rd HM11.out.2 hsm15_.out (by omega) (by omega))).mono ?_
  rintro r w16 ⟨rfl, b16⟩
  have z16 := b16.size
  have V16 := bstep V15 b16
  have s0__16 := s0__15.below b16 (Nat.le_refl _)
  have W__16 := W__15.below b16 (Nat.le_refl _)
  have x0__16 := x0__15.below b16 (Nat.le_refl _)
  have G__16 := G__15.below b16 (Nat.le_refl _)
  have z0__16 := z0__15.below b16 (Nat.le_refl _)
  have y0__16 := y0__15.below b16 (Nat.le_refl _)
  have H__16 := H__15.below b16 (Nat.le_refl _)
  rw [hfl15_]
  rw [HFG.out]
  go_wp2
  go_ret
  exact ⟨rfl, V16⟩
set_option maxRecDepth 100000 in
theorem lifted (os : Os) (started : os.Started) (H : Type) (enc : TypeId × Value → H) :
    ReturnsInHanded {} Try.checked os 9 .any (Rows.fnExactFrameBestSpec.pre6 enc Try.prog Try.f9 Rows.fnExactFrameBestRow.domain false) (Rows.fnExactFrameBestSpec.post enc Try.prog Try.f9 false true false false) := by
  refine returnsInHanded_of_change (C := Try.checked) own started (by kernel_rfl) Try.func9
    (ChangeSpec.witness6 (enc := enc) (C := Try.checked) false ⟨#[], #[.slice none 0 0], []⟩ 8 (by kernel_rfl) (by kernel_rfl) (by kernel_rfl) (by kernel_rfl)) ?_
  intro W base args ds gs before hval0 hW hcnd _
  have hval : ∀ (j : Nat) t v, Try.f9.params[j]? = some t → args[j]? = some v → Value.okWide Try.prog W .any base t v := hval0
  have hW' := hW
  obtain ⟨p, q, hA0, hV, rfl, hfz, hnd⟩ := hW
  have hA : DataW.TrodAll enc Try.prog W 0 (fun _ => true) true Try.f9.params.toList args.toList ds p := hA0
  rw [Try.params9] at hA hval
  obtain ⟨v0, vs0, d0, ds0, p0, q0, hargs, rfl, rfl, k0, r0⟩ := trodAll_cons hA
  obtain ⟨rfl, rfl, rfl⟩ := trodAll_nil r0
  obtain rfl : args = #[v0] := by cases args; simp_all
  obtain ⟨rfl, rfl⟩ := trodVars_none hV
  have lt0 : ∀ x ∈ p0, x.block < W.heap.size := by obtain ⟨m, hm⟩ := k0; exact DataW.trod_lt m _ _ _ hm
  obtain ⟨a0, n0, c0, rfl⟩ := okWide_slice Try.underlying22 (hval 0 22 v0 rfl rfl)
  obtain ⟨z0, f0⟩ := open_rows (W := W) k0
  clear hA0 hval0
  refine (walk a0 n0 c0 z0 W f0).mono fun e W' ⟨he, bel⟩ => ?_
  subst he
  exact ⟨_, rfl, _, _, _, [], _, [], hW', trodAll_mk1 (shut_bool Try.underlying4 _), (trodAll_cons_mk (Below.trod laidOut (by kernel_rfl) (of_decide_eq_true (by kernel_rfl)) k0 bel lt0) trodAll_mk0), rfl, bel.frame _, fun h => by cases h⟩
theorem closed : joinedFacts Try.pinned.checked.prog 9 Try.f9 Rows.fnExactFrameBestSpec Rows.fnExactFrameBestRow = true := by
  unfold joinedFacts
  repeat' (with_reducible refine Bool.and_eq_true_iff.2 ⟨?_, ?_⟩)
  · kernel_rfl
  · exact laidOut
  · kernel_rfl
  · kernel_rfl
  · kernel_rfl
  · kernel_rfl
  · kernel_rfl
  · kernel_rfl
  · kernel_rfl
  · kernel_rfl
  · kernel_rfl
  · kernel_rfl
  · kernel_rfl
  · kernel_rfl
  · kernel_rfl
  · kernel_rfl
  · kernel_rfl
  · kernel_rfl
  · kernel_rfl
  · kernel_rfl
  · kernel_rfl
  · kernel_rfl
  · kernel_rfl
  · kernel_rfl
  · kernel_rfl
  · exact heavy.1
  · exact heavy.2.1
  · exact heavy.2.2
  · kernel_rfl
  · kernel_rfl
  · kernel_rfl
  · kernel_rfl
theorem over : Rows.fnExactFrameBestRow.holds Try.pinned (OpenSpec.ofChange Rows.fnExactFrameBestSpec) :=
  OpenClaim.holds_of_wide 9 Try.f9 rfl rfl rfl rfl rfl rfl rfl ⟨rfl, rfl, rfl, rfl, rfl⟩ rfl rfl rfl rfl rfl (by kernel_rfl) Try.func9 closed
    (of_decide_eq_true (by kernel_rfl)) (by unfold Func.isWrapper; first | (rw [if_pos (by decide +kernel)]; kernel_rfl) | (rw [if_neg (by decide +kernel)]; exact ⟨rfl, rfl⟩))
    (fun os started H enc _ => lifted os started H enc)
theorem proved : Rows.FnExactFrameBestSaid := over
#print axioms proved
end Go.Proofs.Ytlekmebfpfdllaa.exactFrameBest
