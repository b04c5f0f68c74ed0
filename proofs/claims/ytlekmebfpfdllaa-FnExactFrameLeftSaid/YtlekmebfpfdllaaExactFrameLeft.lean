/- FnExactFrameLeft returns true for all arguments: the program's FrameLeft and the reference's answer the same. No condition. -/
import Derived.Test.YtlekmebfpfdllaaFrame
import Derived.Test.Ytlekmebfpfdllaa5a
import Derived.Test.Ytlekmebfpfdllaa5l2
namespace Go.Proofs.Ytlekmebfpfdllaa.exactFrameLeft
open Go.ChangeShapes Go.WideShapes Go.ChangeAt Go.RowKit
set_option linter.unusedSimpArgs false
set_option linter.unusedVariables false
set_option maxRecDepth 100000 in
set_option maxHeartbeats 4000000 in
theorem walk (A : Option Addr) (n c : Nat) (xs : List (List Int)) (E : Option Addr) (p d : Nat) (ys : List (List Int)) (w : World) (fxs : RdT w A n xs ∧ n ≤ c ∧ c ≤ maxLen ∧ ∀ r ∈ xs, r.length ≤ maxLen) (fys : RdT w E p ys ∧ p ≤ d ∧ d ≤ maxLen ∧ ∀ r ∈ ys, r.length ≤ maxLen) :
    Calls Try.prog 5 #[.slice A n c, .slice E p d] w fun x w' => x = .returned (.bool true) ∧ Below w.heap.size w w' := by
  obtain ⟨hxs, hxsc, hxsm, hxsr⟩ := fxs
  have Lxs := hxs.len
  have HRxs := Lib.hid hxsr; clear hxsr
  obtain ⟨hys, hysc, hysm, hysr⟩ := fys
  have Lys := hys.len
  have HRys := Lib.hid hysr; clear hysr
  obtain ⟨W0, HW0⟩ : ∃ W0, Hid (W0 = w) := ⟨_, rfl⟩
  have V0 : Below w.heap.size w W0 := by rw [HW0.out]; exact Below.refl _ _
  go_enter Try.func5, Try.ntmps5
  go_wp2_with fail
  rw [← HW0.out]
  refine (szIntSS_any A n c xs 1048576 _ (hxs.below V0 (Nat.le_refl _)) (by omega) HRxs.out (by omega) (by omega)).mono ?_
  rintro r w1 ⟨r1, rfl, hr1, q1⟩
  obtain ⟨m1, hm1⟩ := q1
  have b1 : Below W0.heap.size W0 w1 := by rw [hm1]; exact below_drewN (Below.refl _ _) _
  clear hm1
  have z1 := b1.size
  have V1 := bstep V0 b1
  by_cases hneg1 : r1 < 0
  · go_wp2
    go_ret
    exact ⟨rfl, V1⟩
  obtain ⟨hra1, hrb1⟩ := hr1.out (by omega)
  clear hr1
  go_wp2_with fail
  refine (szIntSS_any E p d ys r1 _ (hys.below V1 (Nat.le_refl _)) (by omega) HRys.out (by omega) (by omega)).mono ?_
  rintro r w2 ⟨r2, rfl, hr2, q2⟩
  obtain ⟨m2, hm2⟩ := q2
  have b2 : Below w1.heap.size w1 w2 := by rw [hm2]; exact below_drewN (Below.refl _ _) _
  clear hm2
  have z2 := b2.size
  have V2 := bstep V1 b2
  by_cases hneg2 : r2 < 0
  · go_wp2
    go_ret
    exact ⟨rfl, V2⟩
  obtain ⟨hra2, hrb2⟩ := hr2.out (by omega)
  clear hr2
  have Sxs : Hid (SmT xs) := ⟨by rw [Lxs.out]; omega, by omega⟩
  have Sys : Hid (SmT ys) := ⟨by rw [Lys.out]; omega, by omega⟩
  go_wp2_with fail
  refine (toIntSS_any A n c xs _ (hxs.below V2 (Nat.le_refl _)) Sxs.out).mono ?_
  rintro r w3 ⟨A3, c3, rfl, h3, b3⟩
  have z3 := b3.size
  have V3 := bstep V2 b3
  have s0__3 := h3
  go_wp2_with fail
  refine (toIntSS_any E p d ys _ (hys.below V3 (Nat.le_refl _)) Sys.out).mono ?_
  rintro r w4 ⟨A4, c4, rfl, h4, b4⟩
  have z4 := b4.size
  have V4 := bstep V3 b4
  have s0__4 := s0__3.below b4 (Nat.le_refl _)
  have s1__4 := h4
  go_wp2_with fail
  refine (spec_FrameLeft A3 n c3 xs A4 p c4 ys w4 s0__4.rd s1__4.rd s0__4.cap.1 s1__4.cap.1 Sxs.out Sys.out).mono ?_
  rintro r w5 ⟨A5, n5, c5, rfl, h5, b5⟩
  have z5 := b5.size
  have V5 := bstep V4 b5
  have s0__5 := s0__4.below b5 (Nat.le_refl _)
  have s1__5 := s1__4.below b5 (Nat.le_refl _)
  have W__5 := h5
  have HL5 := h5.len
  have HS5 : Hid (SmT (leftL xs ys)) := left_sm Sxs.out Sys.out
  go_wp2_with fail
  refine (toIntSS_any A n c xs _ (hxs.below V5 (Nat.le_refl _)) Sxs.out).mono ?_
  rintro r w6 ⟨A6, c6, rfl, h6, b6⟩
  have z6 := b6.size
  have V6 := bstep V5 b6
  have s0__6 := s0__5.below b6 (Nat.le_refl _)
  have s1__6 := s1__5.below b6 (Nat.le_refl _)
  have W__6 := W__5.below b6 (Nat.le_refl _)
  have x0__6 := h6
  go_wp2_with fail
  refine (toIntSS_any E p d ys _ (hys.below V6 (Nat.le_refl _)) Sys.out).mono ?_
  rintro r w7 ⟨A7, c7, rfl, h7, b7⟩
  have z7 := b7.size
  have V7 := bstep V6 b7
  have s0__7 := s0__6.below b7 (Nat.le_refl _)
  have s1__7 := s1__6.below b7 (Nat.le_refl _)
  have W__7 := W__6.below b7 (Nat.le_refl _)
  have x0__7 := x0__6.below b7 (Nat.le_refl _)
  have x1__7 := h7
  go_wp2_with fail
  refine (impl_FrameLeft A6 n c6 xs A7 p c7 ys w7 x0__7.rd x1__7.rd x0__7.cap.1 x1__7.cap.1 Sxs.out Sys.out).mono ?_
  rintro r w8 ⟨A8, n8, c8, rfl, h8, b8⟩
  have z8 := b8.size
  have V8 := bstep V7 b8
  have s0__8 := s0__7.below b8 (Nat.le_refl _)
  have s1__8 := s1__7.below b8 (Nat.le_refl _)
  have W__8 := W__7.below b8 (Nat.le_refl _)
  have x0__8 := x0__7.below b8 (Nat.le_refl _)
  have x1__8 := x1__7.below b8 (Nat.le_refl _)
  have G__8 := h8
  have HL8 := h8.len
  have HS8 : Hid (SmT (leftL xs ys)) := left_sm Sxs.out Sys.out
  go_wp2_with fail
  refine (retB_bel (eqIntSS_any A8 A5 n8 n5 c8 c5 (leftL xs ys) (leftL xs ys) w8 G__8.rd W__8.rd HS8.out HS5.out)).mono ?_
  rintro r w9 ⟨e9, rfl, he9, b9⟩
  have z9 := b9.size
  have V9 := bstep V8 b9
  have s0__9 := s0__8.below b9 (Nat.le_refl _)
  have s1__9 := s1__8.below b9 (Nat.le_refl _)
  have W__9 := W__8.below b9 (Nat.le_refl _)
  have x0__9 := x0__8.below b9 (Nat.le_refl _)
  have x1__9 := x1__8.below b9 (Nat.le_refl _)
  have G__9 := G__8.below b9 (Nat.le_refl _)
  obtain rfl := he9.out.2 rfl
  clear he9
  go_wp2_with fail
  refine (toIntSS_any A n c xs _ (hxs.below V9 (Nat.le_refl _)) Sxs.out).mono ?_
  rintro r w10 ⟨A10, c10, rfl, h10, b10⟩
  have z10 := b10.size
  have V10 := bstep V9 b10
  have s0__10 := s0__9.below b10 (Nat.le_refl _)
  have s1__10 := s1__9.below b10 (Nat.le_refl _)
  have W__10 := W__9.below b10 (Nat.le_refl _)
  have x0__10 := x0__9.below b10 (Nat.le_refl _)
  have x1__10 := x1__9.below b10 (Nat.le_refl _)
  have G__10 := G__9.below b10 (Nat.le_refl _)
  have z0__10 := h10
  go_wp2_with fail
  refine (retB_bel (eqIntSS_any A6 A10 n n c6 c10 (xs) (xs) w10 x0__10.rd z0__10.rd Sxs.out Sxs.out)).mono ?_
  rintro r w11 ⟨e11, rfl, he11, b11⟩
  have z11 := b11.size
  have V11 := bstep V10 b11
  have s0__11 := s0__10.below b11 (Nat.le_refl _)
  have s1__11 := s1__10.below b11 (Nat.le_refl _)
  have W__11 := W__10.below b11 (Nat.le_refl _)
  have x0__11 := x0__10.below b11 (Nat.le_refl _)
  have x1__11 := x1__10.below b11 (Nat.le_refl _)
  have G__11 := G__10.below b11 (Nat.le_refl _)
  have z0__11 := z0__10.below b11 (Nat.le_refl _)
  obtain rfl := he11.out.2 rfl
  clear he11
  go_wp2_with fail
  refine (toIntSS_any E p d ys _ (hys.below V11 (Nat.le_refl _)) Sys.out).mono ?_
  rintro r w12 ⟨A12, c12, rfl, h12, b12⟩
  have z12 := b12.size
  have V12 := bstep V11 b12
  have s0__12 := s0__11.below b12 (Nat.le_refl _)
  have s1__12 := s1__11.below b12 (Nat.le_refl _)
  have W__12 := W__11.below b12 (Nat.le_refl _)
  have x0__12 := x0__11.below b12 (Nat.le_refl _)
  have x1__12 := x1__11.below b12 (Nat.le_refl _)
  have G__12 := G__11.below b12 (Nat.le_refl _)
  have z0__12 := z0__11.below b12 (Nat.le_refl _)
  have z1__12 := h12
  go_wp2_with fail
  refine (retB_bel (eqIntSS_any A7 A12 p p c7 c12 (ys) (ys) w12 x1__12.rd z1__12.rd Sys.out Sys.out)).mono ?_
  rintro r w13 ⟨e13, rfl, he13, b13⟩
  have z13 := b13.size
  have V13 := bstep V12 b13
  have s0__13 := s0__12.below b13 (Nat.le_refl _)
  have s1__13 := s1__12.below b13 (Nat.le_refl _)
  have W__13 := W__12.below b13 (Nat.le_refl _)
  have x0__13 := x0__12.below b13 (Nat.le_refl _)
  have x1__13 := x1__12.below b13 (Nat.le_refl _)
  have G__13 := G__12.below b13 (Nat.le_refl _)
  have z0__13 := z0__12.below b13 (Nat.le_refl _)
  have z1__13 := z1__12.below b13 (Nat.le_refl _)
  obtain rfl := he13.out.2 rfl
  clear he13
  have hfb0 := Sxs.out.2
  go_wp2_with fail
  refine (markIntSS_any A6 n c6 (xs) (1) _ _ w13 x0__13 Sxs.out (by omega) (by omega)).mono ?_
  rintro r w14 ⟨zs14, rfl, HM14, h14, K14⟩
  have z14 := K14.size
  have V14 := Kb.below_of V13 K14 V13.size (by intro g h1 h2; have := V0.size; omega)
  have s0__14 := s0__13.kb K14 (by intro g h1 h2 h3; omega)
  have s1__14 := s1__13.kb K14 (by intro g h1 h2 h3; omega)
  have W__14 := W__13.kb K14 (by intro g h1 h2 h3; omega)
  have x0__14 := h14
  have x1__14 := x1__13.kb K14 (by intro g h1 h2 h3; omega)
  have G__14 := G__13.kb K14 (by intro g h1 h2 h3; omega)
  have z0__14 := z0__13.kb K14 (by intro g h1 h2 h3; omega)
  have z1__14 := z1__13.kb K14 (by intro g h1 h2 h3; omega)
  have hfb1 := Sys.out.2
  go_wp2_with fail
  refine (markIntSS_any A7 p c7 (ys) (1 + (flat xs : Int)) _ _ w14 x1__14 Sys.out (by omega) (by omega)).mono ?_
  rintro r w15 ⟨zs15, rfl, HM15, h15, K15⟩
  have z15 := K15.size
  have V15 := Kb.below_of V14 K15 V14.size (by intro g h1 h2; have := V0.size; omega)
  have s0__15 := s0__14.kb K15 (by intro g h1 h2 h3; omega)
  have s1__15 := s1__14.kb K15 (by intro g h1 h2 h3; omega)
  have W__15 := W__14.kb K15 (by intro g h1 h2 h3; omega)
  have x0__15 := x0__14.kb K15 (by intro g h1 h2 h3; omega)
  have x1__15 := h15
  have G__15 := G__14.kb K15 (by intro g h1 h2 h3; omega)
  have z0__15 := z0__14.kb K15 (by intro g h1 h2 h3; omega)
  have z1__15 := z1__14.kb K15 (by intro g h1 h2 h3; omega)
  go_wp2_with fail
  refine (retB_bel (eqIntSS_any A8 A5 n8 n5 c8 c5 (leftL xs ys) (leftL xs ys) w15 G__15.rd W__15.rd HS8.out HS5.out)).mono ?_
  rintro r w16 ⟨e16, rfl, he16, b16⟩
  have z16 := b16.size
  have V16 := bstep V15 b16
  have s0__16 := s0__15.below b16 (Nat.le_refl _)
  have s1__16 := s1__15.below b16 (Nat.le_refl _)
  have W__16 := W__15.below b16 (Nat.le_refl _)
  have x0__16 := x0__15.below b16 (Nat.le_refl _)
  have x1__16 := x1__15.below b16 (Nat.le_refl _)
  have G__16 := G__15.below b16 (Nat.le_refl _)
  have z0__16 := z0__15.below b16 (Nat.le_refl _)
  have z1__16 := z1__15.below b16 (Nat.le_refl _)
  obtain rfl := he16.out.2 rfl
  clear he16
  have hfg := HS8.out.2
  go_wp2_with fail
  refine (markIntSS_any A8 n8 c8 (leftL xs ys) (1) _ _ w16 G__16 HS8.out (by omega) (by omega)).mono ?_
  rintro r w17 ⟨zs17, rfl, HM17, h17, K17⟩
  have z17 := K17.size
  have V17 := Kb.below_of V16 K17 V16.size (by intro g h1 h2; have := V0.size; omega)
  have s0__17 := s0__16.kb K17 (by intro g h1 h2 h3; omega)
  have s1__17 := s1__16.kb K17 (by intro g h1 h2 h3; omega)
  have W__17 := W__16.kb K17 (by intro g h1 h2 h3; omega)
  have x0__17 := x0__16.kb K17 (by intro g h1 h2 h3; omega)
  have x1__17 := x1__16.kb K17 (by intro g h1 h2 h3; omega)
  have G__17 := h17
  have z0__17 := z0__16.kb K17 (by intro g h1 h2 h3; omega)
  have z1__17 := z1__16.kb K17 (by intro g h1 h2 h3; omega)
  obtain ⟨FG, HFG⟩ : ∃ FG, Hid (flat (leftL xs ys) = FG) := ⟨_, rfl⟩
  rw [HFG.out] at hfg
  rw [HFG.out]
  have hfgz : ((1 : Int) + (FG : Int) != 1 + (FG : Int)) = false := by simp
  have hsm17_ : Hid (SmT zs17) := sm_same HM17.out.1 HS8.out
  have hfl17_ := HM17.out.1.flatAll
  go_wp2_with fail
  refine (quiet_bel (heldIntSS_any A8 n8 c8 zs17 1 w17 G__17.rd HM17.out.2 hsm17_.out (by omega) (by omega))).mono ?_
  rintro r w18 ⟨rfl, b18⟩
  have z18 := b18.size
  have V18 := bstep V17 b18
  have s0__18 := s0__17.below b18 (Nat.le_refl _)
  have s1__18 := s1__17.below b18 (Nat.le_refl _)
  have W__18 := W__17.below b18 (Nat.le_refl _)
  have x0__18 := x0__17.below b18 (Nat.le_refl _)
  have x1__18 := x1__17.below b18 (Nat.le_refl _)
  have G__18 := G__17.below b18 (Nat.le_refl _)
  have z0__18 := z0__17.below b18 (Nat.le_refl _)
  have z1__18 := z1__17.below b18 (Nat.le_refl _)
  rw [hfl17_]
  rw [HFG.out]
  go_wp2_with fail
  refine (toIntSS_any A n c xs _ (hxs.below V18 (Nat.le_refl _)) Sxs.out).mono ?_
  rintro r w19 ⟨A19, c19, rfl, h19, b19⟩
  have z19 := b19.size
  have V19 := bstep V18 b19
  have s0__19 := s0__18.below b19 (Nat.le_refl _)
  have s1__19 := s1__18.below b19 (Nat.le_refl _)
  have W__19 := W__18.below b19 (Nat.le_refl _)
  have x0__19 := x0__18.below b19 (Nat.le_refl _)
  have x1__19 := x1__18.below b19 (Nat.le_refl _)
  have G__19 := G__18.below b19 (Nat.le_refl _)
  have z0__19 := z0__18.below b19 (Nat.le_refl _)
  have z1__19 := z1__18.below b19 (Nat.le_refl _)
  have y0__19 := h19
  go_wp2_with fail
  refine (toIntSS_any E p d ys _ (hys.below V19 (Nat.le_refl _)) Sys.out).mono ?_
  rintro r w20 ⟨A20, c20, rfl, h20, b20⟩
  have z20 := b20.size
  have V20 := bstep V19 b20
  have s0__20 := s0__19.below b20 (Nat.le_refl _)
  have s1__20 := s1__19.below b20 (Nat.le_refl _)
  have W__20 := W__19.below b20 (Nat.le_refl _)
  have x0__20 := x0__19.below b20 (Nat.le_refl _)
  have x1__20 := x1__19.below b20 (Nat.le_refl _)
  have G__20 := G__19.below b20 (Nat.le_refl _)
  have z0__20 := z0__19.below b20 (Nat.le_refl _)
  have z1__20 := z1__19.below b20 (Nat.le_refl _)
  have y0__20 := y0__19.below b20 (Nat.le_refl _)
  have y1__20 := h20
  go_wp2_with fail
  refine (impl_FrameLeft A19 n c19 xs A20 p c20 ys w20 y0__20.rd y1__20.rd y0__20.cap.1 y1__20.cap.1 Sxs.out Sys.out).mono ?_
  rintro r w21 ⟨A21, n21, c21, rfl, h21, b21⟩
  have z21 := b21.size
  have V21 := bstep V20 b21
  have s0__21 := s0__20.below b21 (Nat.le_refl _)
  have s1__21 := s1__20.below b21 (Nat.le_refl _)
  have W__21 := W__20.below b21 (Nat.le_refl _)
  have x0__21 := x0__20.below b21 (Nat.le_refl _)
  have x1__21 := x1__20.below b21 (Nat.le_refl _)
  have G__21 := G__20.below b21 (Nat.le_refl _)
  have z0__21 := z0__20.below b21 (Nat.le_refl _)
  have z1__21 := z1__20.below b21 (Nat.le_refl _)
  have y0__21 := y0__20.below b21 (Nat.le_refl _)
  have y1__21 := y1__20.below b21 (Nat.le_refl _)
  have H__21 := h21
  have HL21 := h21.len
  have HS21 : Hid (SmT (leftL xs ys)) := left_sm Sxs.out Sys.out
  go_wp2_with fail
  refine (retB_bel (eqIntSS_any A21 A5 n21 n5 c21 c5 (leftL xs ys) (leftL xs ys) w21 H__21.rd W__21.rd HS21.out HS5.out)).mono ?_
  rintro r w22 ⟨e22, rfl, he22, b22⟩
  have z22 := b22.size
  have V22 := bstep V21 b22
  have s0__22 := s0__21.below b22 (Nat.le_refl _)
  have s1__22 := s1__21.below b22 (Nat.le_refl _)
  have W__22 := W__21.below b22 (Nat.le_refl _)
  have x0__22 := x0__21.below b22 (Nat.le_refl _)
  have x1__22 := x1__21.below b22 (Nat.le_refl _)
  have G__22 := G__21.below b22 (Nat.le_refl _)
  have z0__22 := z0__21.below b22 (Nat.le_refl _)
  have z1__22 := z1__21.below b22 (Nat.le_refl _)
  have y0__22 := y0__21.below b22 (Nat.le_refl _)
  have y1__22 := y1__21.below b22 (Nat.le_refl _)
  have H__22 := H__21.below b22 (Nat.le_refl _)
  obtain rfl := he22.out.2 rfl
  clear he22
  have hsm22_ : Hid (SmT zs17) := sm_same HM17.out.1 HS8.out
  have hfl22_ := HM17.out.1.flatAll
  go_wp2_with fail
  refine (quiet_bel (heldIntSS_any A8 n8 c8 zs17 1 w22 G__22.rd HM17.out.2 hsm22_.out (by omega) (by omega))).mono ?_
  rintro r w23 ⟨rfl, b23⟩
  have z23 := b23.size
  have V23 := bstep V22 b23
  have s0__23 := s0__22.below b23 (Nat.le_refl _)
  have s1__23 := s1__22.below b23 (Nat.le_refl _)
  have W__23 := W__22.below b23 (Nat.le_refl _)
  have x0__23 := x0__22.below b23 (Nat.le_refl _)
  have x1__23 := x1__22.below b23 (Nat.le_refl _)
  have G__23 := G__22.below b23 (Nat.le_refl _)
  have z0__23 := z0__22.below b23 (Nat.le_refl _)
  have z1__23 := z1__22.below b23 (Nat.le_refl _)
  have y0__23 := y0__22.below b23 (Nat.le_refl _)
  have y1__23 := y1__22.below b23 (Nat.le_refl _)
  have H__23 := H__22.below b23 (Nat.le_refl _)
  rw [hfl22_]
  rw [HFG.out]
  go_wp2
  go_ret
  exact ⟨rfl, V23⟩
set_option maxRecDepth 100000 in
theorem lifted (os : Os) (started : os.Started) (H : Type) (enc : TypeId × Value → H) :
    ReturnsInHanded {} Try.checked os 5 .any (Rows.fnExactFrameLeftSpec.pre6 enc Try.prog Try.f5 Rows.fnExactFrameLeftRow.domain false) (Rows.fnExactFrameLeftSpec.post enc Try.prog Try.f5 false true false false) := by
  refine returnsInHanded_of_change (C := Try.checked) own started (by kernel_rfl) Try.func5
    (ChangeSpec.witness6 (enc := enc) (C := Try.checked) false ⟨#[], #[.slice none 0 0, .slice none 0 0], []⟩ 8 (by kernel_rfl) (by kernel_rfl) (by kernel_rfl) (by kernel_rfl)) ?_
  intro W base args ds gs before hval0 hW hcnd _
  have hval : ∀ (j : Nat) t v, Try.f5.params[j]? = some t → args[j]? = some v → Value.okWide Try.prog W .any base t v := hval0
  have hW' := hW
  obtain ⟨p, q, hA0, hV, rfl, hfz, hnd⟩ := hW
  have hA : DataW.TrodAll enc Try.prog W 0 (fun _ => true) true Try.f5.params.toList args.toList ds p := hA0
  rw [Try.params5] at hA hval
  obtain ⟨v0, vs0, d0, ds0, p0, q0, hargs, rfl, rfl, k0, r0⟩ := trodAll_cons hA
  obtain ⟨v1, vs1, d1, ds1, p1, q1, rfl, rfl, rfl, k1, r1⟩ := trodAll_cons r0
  obtain ⟨rfl, rfl, rfl⟩ := trodAll_nil r1
  obtain rfl : args = #[v0, v1] := by cases args; simp_all
  obtain ⟨rfl, rfl⟩ := trodVars_none hV
  have lt0 : ∀ x ∈ p0, x.block < W.heap.size := by obtain ⟨m, hm⟩ := k0; exact DataW.trod_lt m _ _ _ hm
  obtain ⟨a0, n0, c0, rfl⟩ := okWide_slice Try.underlying22 (hval 0 22 v0 rfl rfl)
  obtain ⟨z0, f0⟩ := open_rows (W := W) k0
  have lt1 : ∀ x ∈ p1, x.block < W.heap.size := by obtain ⟨m, hm⟩ := k1; exact DataW.trod_lt m _ _ _ hm
  obtain ⟨a1, n1, c1, rfl⟩ := okWide_slice Try.underlying22 (hval 1 22 v1 rfl rfl)
  obtain ⟨z1, f1⟩ := open_rows (W := W) k1
  clear hA0 hval0
  refine (walk a0 n0 c0 z0 a1 n1 c1 z1 W f0 f1).mono fun e W' ⟨he, bel⟩ => ?_
  subst he
  exact ⟨_, rfl, _, _, _, [], _, [], hW', trodAll_mk1 (shut_bool Try.underlying4 _), (trodAll_cons_mk (Below.trod laidOut (by kernel_rfl) (of_decide_eq_true (by kernel_rfl)) k0 bel lt0) (trodAll_cons_mk (Below.trod laidOut (by kernel_rfl) (of_decide_eq_true (by kernel_rfl)) k1 bel lt1) trodAll_mk0)), rfl, bel.frame _, fun h => by cases h⟩
theorem closed : joinedFacts Try.pinned.checked.prog 5 Try.f5 Rows.fnExactFrameLeftSpec Rows.fnExactFrameLeftRow = true := by
  unfold joinedFacts
  repeat' (with_reducible refine Bool.and_eq_true_iff.2 ⟨?_, ?_⟩)
  · kernel_rfl
  · exact laidOut
  · kernel_rfl
  · kernel_rfl
  · kernel_rfl
  · kernel_rfl
  · kernel_rfl
  · kernel_rfl
  · kernel_rfl
  · kernel_rfl
  · kernel_rfl
  · kernel_rfl
  · kernel_rfl
  · kernel_rfl
  · kernel_rfl
  · kernel_rfl
  · kernel_rfl
  · kernel_rfl
  · kernel_rfl
  · kernel_rfl
  · kernel_rfl
  · kernel_rfl
  · kernel_rfl
  · kernel_rfl
  · kernel_rfl
  · exact heavy.1
  · exact heavy.2.1
  · exact heavy.2.2
  · kernel_rfl
  · kernel_rfl
  · kernel_rfl
  · kernel_rfl
theorem over : Rows.fnExactFrameLeftRow.holds Try.pinned (OpenSpec.ofChange Rows.fnExactFrameLeftSpec) :=
  OpenClaim.holds_of_wide 5 Try.f5 rfl rfl rfl rfl rfl rfl rfl ⟨rfl, rfl, rfl, rfl, rfl⟩ rfl rfl rfl rfl rfl (by kernel_rfl) Try.func5 closed
    (of_decide_eq_true (by kernel_rfl)) (by unfold Func.isWrapper; first | (rw [if_pos (by decide +kernel)]; kernel_rfl) | (rw [if_neg (by decide +kernel)]; exact ⟨rfl, rfl⟩))
    (fun os started H enc _ => lifted os started H enc)
theorem proved : Rows.FnExactFrameLeftSaid := over
#print axioms proved
end Go.Proofs.Ytlekmebfpfdllaa.exactFrameLeft
