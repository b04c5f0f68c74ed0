/- FnExactRouteAll returns true for all arguments: the program's RouteAll and the reference's answer the same. No condition. -/
import Derived.Test.YtldbbphpikdfdaaFrame
import Derived.Test.Ytldbbphpikdfdaa4ro
import Derived.Test.Ytldbbphpikdfdaa4rs
import Derived.Test.Ytldbbphpikdfdaa4e
import Derived.Test.YtldbbphpikdfdaaMark
namespace Go.Proofs.Ytldbbphpikdfdaa.exactRouteAll
open Go.ChangeShapes Go.WideShapes Go.ChangeAt Go.RowKit
set_option linter.unusedSimpArgs false
set_option linter.unusedVariables false
theorem quiet_below {P : Program} {f : FuncId} {args : Array Value} {w : World} {v : Ending} (h : Calls P f args w fun e w' => e = v ∧ ∃ m, w' = w.drewN m) : Calls P f args w fun e w' => e = v ∧ Below w.heap.size w w' :=
  h.mono fun _ _ ⟨he, m, hm⟩ => ⟨he, by rw [hm]; exact below_drewN (Below.refl _ _) m⟩
theorem retB_M {P : Program} {f : FuncId} {args : Array Value} {w : World} {p : Prop} (h : Calls P f args w (RetB p w)) : Calls P f args w (RetM p w) :=
  h.mono fun _ _ ⟨b, he, hb, m, hm⟩ => ⟨b, he, hb, by rw [hm]; exact below_drewN (Below.refl _ _) m⟩
set_option maxRecDepth 100000 in
set_option maxHeartbeats 4000000 in
theorem walk (o e m : Int) (A : Option Addr) (n c : Nat) (xs : List Int) (w : World) (f0 : (Lit.int .i64 o).wf = true ∧ (Lit.int .i64 e).wf = true ∧ (Lit.int .i64 m).wf = true) (f : RdL iv w A n xs ∧ n ≤ c ∧ c ≤ maxLen ∧ ∀ z ∈ xs, (Lit.int .i64 z).wf = true) :
    Calls Try.prog 12 #[.agg #[.int .i64 o, .int .i64 e, .int .i64 m], .slice A n c] w fun x w' => x = .returned (.bool true) ∧ Below w.heap.size w w' := by
  clear f0
  obtain ⟨hx, hc1, hc2, -⟩ := f
  have B0 := below_box w (.cells #[.int .i64 o, .int .i64 e, .int .i64 m] 23)
  have K0 : ∀ w' : World, Below (w.alloc (.cells #[.int .i64 o, .int .i64 e, .int .i64 m] 23)).heap.size (w.alloc (.cells #[.int .i64 o, .int .i64 e, .int .i64 m] 23)) w' → w'.cell? ⟨w.heap.size, 0, none⟩ = some (.int .i64 o) ∧ w'.cell? ⟨w.heap.size, 1, none⟩ = some (.int .i64 e) ∧ w'.cell? ⟨w.heap.size, 2, none⟩ = some (.int .i64 m) := fun w' b => ⟨(b.cell (p := ⟨w.heap.size, 0, none⟩) (by simp)).trans (by simp), (b.cell (p := ⟨w.heap.size, 1, none⟩) (by simp)).trans (by simp), (b.cell (p := ⟨w.heap.size, 2, none⟩) (by simp)).trans (by simp)⟩
  have HK := Lib.hid K0; clear K0
  obtain ⟨W0, HW0⟩ : ∃ W0, Hid (W0 = w.alloc (.cells #[.int .i64 o, .int .i64 e, .int .i64 m] 23)) := ⟨_, rfl⟩
  rw [← HW0.out] at B0 HK
  have hx0 := hx.below B0 (Nat.le_refl _)
  have hz0 := B0.size
  have hn_len : Hid (xs.length = n) := hx.1
  by_cases hn : n ≤ 1048576
  · go_enter Try.func12, Try.ntmps12
    have V0 := Below.refl W0.heap.size W0
    obtain ⟨c0, c1, c2⟩ := HK.out _ V0
    go_wp2_with fail
    rw [← HW0.out]
    refine (toShape_any o e m _).mono ?_
    rintro r w1 ⟨rfl, b1⟩
    clear c0 c1 c2
    have z1 := b1.size
    have V1 := bstep V0 b1
    go_wp2_with fail
    refine (toIntS_any A n c xs _ (hx0.below V1 (Nat.le_refl _)) hn).mono ?_
    rintro r w2 ⟨A2, c2, rfl, h2, b2⟩
    have z2 := b2.size
    have V2 := bstep V1 b2
    have xs__2 := h2
    have xs__b := h2
    go_wp2_with fail
    refine (spec_RouteAll o e m A2 n c2 xs w2 (OwnL.rd xs__2) (OwnL.cap xs__2).1 hn).mono ?_
    rintro r w3 ⟨A3, n3, c3, ys3, t3, rfl, HP3, h3, b3⟩
    have z3 := b3.size
    have V3 := bstep V2 b3
    have xs__3 := OwnL.below xs__2 b3 (Nat.le_refl _)
    have W__3 := h3
    have W__b := h3
    have HL3 := OwnC.len h3
    have HB3 : Hid (n3 ≤ 1048576) := by show _ ≤ _; rw [← HL3.out]; have := route_len o e m xs; rw [HP3.out] at this; exact this (by rw [hn_len.out]; exact hn)
    go_wp2_with fail
    refine (toIntS_any A n c xs _ (hx0.below V3 (Nat.le_refl _)) hn).mono ?_
    rintro r w4 ⟨A4, c4, rfl, h4, b4⟩
    have z4 := b4.size
    have V4 := bstep V3 b4
    have xs__4 := OwnL.below xs__3 b4 (Nat.le_refl _)
    have W__4 := OwnM.below W__3 b4 (Nat.le_refl _)
    have x__4 := h4
    have x__b := h4
    obtain ⟨c0, c1, c2⟩ := HK.out _ V4
    go_wp2_with fail
    refine (toShape_any o e m _).mono ?_
    rintro r w5 ⟨rfl, b5⟩
    clear c0 c1 c2
    have z5 := b5.size
    have V5 := bstep V4 b5
    have xs__5 := OwnL.below xs__4 b5 (Nat.le_refl _)
    have W__5 := OwnM.below W__4 b5 (Nat.le_refl _)
    have x__5 := OwnL.below x__4 b5 (Nat.le_refl _)
    go_wp2_with fail
    refine (impl_RouteAll o e m A4 n c4 xs w5 (OwnL.rd x__5) (OwnL.cap x__5).1 hn).mono ?_
    rintro r w6 ⟨A6, n6, c6, ys6, t6, rfl, HP6, h6, b6⟩
    have z6 := b6.size
    have V6 := bstep V5 b6
    have xs__6 := OwnL.below xs__5 b6 (Nat.le_refl _)
    have W__6 := OwnM.below W__5 b6 (Nat.le_refl _)
    have x__6 := OwnL.below x__5 b6 (Nat.le_refl _)
    have G__6 := h6
    have G__b := h6
    have HL6 := OwnC.len h6
    have HB6 : Hid (n6 ≤ 1048576) := by show _ ≤ _; rw [← HL6.out]; have := route_len o e m xs; rw [HP6.out] at this; exact this (by rw [hn_len.out]; exact hn)
    go_wp2_with fail
    refine (eqCallS_any A6 A3 n6 n3 c6 c3 ys6 ys3 w6 (OwnC.rd G__6) (OwnC.rd W__6) HB6.out HB3.out).mono ?_
    rintro r w7 ⟨e7, rfl, he7, b7⟩
    have z7 := b7.size
    have V7 := bstep V6 b7
    have xs__7 := OwnL.below xs__6 b7 (Nat.le_refl _)
    have W__7 := OwnM.below W__6 b7 (Nat.le_refl _)
    have x__7 := OwnL.below x__6 b7 (Nat.le_refl _)
    have G__7 := OwnM.below G__6 b7 (Nat.le_refl _)
    obtain rfl := he7.out.2 (by have := HP6.out.symm.trans HP3.out; injection this)
    clear he7
    have ht7 : t6 = t3 := by have := HP6.out.symm.trans HP3.out; injection this
    subst ht7
    go_wp2_with fail
    refine (toIntS_any A n c xs _ (hx0.below V7 (Nat.le_refl _)) hn).mono ?_
    rintro r w8 ⟨A8, c8, rfl, h8, b8⟩
    have z8 := b8.size
    have V8 := bstep V7 b8
    have xs__8 := OwnL.below xs__7 b8 (Nat.le_refl _)
    have W__8 := OwnM.below W__7 b8 (Nat.le_refl _)
    have x__8 := OwnL.below x__7 b8 (Nat.le_refl _)
    have G__8 := OwnM.below G__7 b8 (Nat.le_refl _)
    have z__8 := h8
    have z__b := h8
    go_wp2_with fail
    refine (retB_M (eqIntS_any A4 A8 n n c4 c8 xs xs w8 (OwnL.rd x__8) (OwnL.rd z__8) hn hn)).mono ?_
    rintro r w9 ⟨e9, rfl, he9, b9⟩
    have z9 := b9.size
    have V9 := bstep V8 b9
    have xs__9 := OwnL.below xs__8 b9 (Nat.le_refl _)
    have W__9 := OwnM.below W__8 b9 (Nat.le_refl _)
    have x__9 := OwnL.below x__8 b9 (Nat.le_refl _)
    have G__9 := OwnM.below G__8 b9 (Nat.le_refl _)
    have z__9 := OwnL.below z__8 b9 (Nat.le_refl _)
    obtain rfl := he9.out.2 rfl
    clear he9
    go_wp2_with fail
    refine (markIntS_any A4 n c4 _ 1 _ w9 x__9 (by have := hn; omega) (by omega) (by omega)).mono ?_
    rintro r w10 ⟨zs10, rfl, HM10, x_'10, G10⟩
    have z10 := G10.size
    have V10 := bgrown V9 G10 V9.size (fun g hg => by have := (OwnL.lt x__9 hg).1; omega)
    have xs__10 := OwnL.grown xs__9 G10 (fun g hg hb => by have h1 := OwnL.lt x__b hg; have h2 := OwnL.lt xs__b hb; omega)
    have W__10 := OwnM.grown W__9 G10 (fun g hg hb => by have h1 := OwnL.lt x__b hg; have h2 := OwnM.lt W__b hb; omega)
    have x__10 := x_'10
    have G__10 := OwnM.grown G__9 G10 (fun g hg hb => by have h1 := OwnL.lt x__b hg; have h2 := OwnM.lt G__b hb; omega)
    have z__10 := OwnL.grown z__9 G10 (fun g hg hb => by have h1 := OwnL.lt x__b hg; have h2 := OwnL.lt z__b hb; omega)
    go_wp2_with fail
    refine (eqCallS_any A6 A3 n6 n3 c6 c3 ys6 ys3 w10 (OwnC.rd G__10) (OwnC.rd W__10) HB6.out HB3.out).mono ?_
    rintro r w11 ⟨e11, rfl, he11, b11⟩
    have z11 := b11.size
    have V11 := bstep V10 b11
    have xs__11 := OwnL.below xs__10 b11 (Nat.le_refl _)
    have W__11 := OwnM.below W__10 b11 (Nat.le_refl _)
    have x__11 := OwnL.below x__10 b11 (Nat.le_refl _)
    have G__11 := OwnM.below G__10 b11 (Nat.le_refl _)
    have z__11 := OwnL.below z__10 b11 (Nat.le_refl _)
    obtain rfl := he11.out.2 (by have := HP6.out.symm.trans HP3.out; injection this)
    clear he11
    go_wp2_with fail
    refine (markCallS_any A6 n6 c6 _ 1 _ w11 G__11 (by have := HB6.out; omega) (by omega) (by omega)).mono ?_
    rintro r w12 ⟨zs12, rfl, HM12, G_'12, G12⟩
    have z12 := G12.size
    have V12 := bgrown V11 G12 V11.size (fun g hg => by have := (OwnM.lt G__11 hg).1; omega)
    have xs__12 := OwnL.grown xs__11 G12 (fun g hg hb => by have h1 := OwnM.lt G__b hg; have h2 := OwnL.lt xs__b hb; omega)
    have W__12 := OwnM.grown W__11 G12 (fun g hg hb => by have h1 := OwnM.lt G__b hg; have h2 := OwnM.lt W__b hb; omega)
    have x__12 := OwnL.grown x__11 G12 (fun g hg hb => by have h1 := OwnM.lt G__b hg; have h2 := OwnL.lt x__b hb; omega)
    have G__12 := G_'12
    have z__12 := OwnL.grown z__11 G12 (fun g hg hb => by have h1 := OwnM.lt G__b hg; have h2 := OwnL.lt z__b hb; omega)
    have hbg := HB6.out
    go_wp2_with fail
    refine (quiet_below (heldCallS_any A6 n6 c6 zs12 1 w12 (OwnC.rd G__12) HM12.out (by have := HB6.out; omega) (by omega) (by omega))).mono ?_
    rintro r w13 ⟨rfl, b13⟩
    have z13 := b13.size
    have V13 := bstep V12 b13
    have xs__13 := OwnL.below xs__12 b13 (Nat.le_refl _)
    have W__13 := OwnM.below W__12 b13 (Nat.le_refl _)
    have x__13 := OwnL.below x__12 b13 (Nat.le_refl _)
    have G__13 := OwnM.below G__12 b13 (Nat.le_refl _)
    have z__13 := OwnL.below z__12 b13 (Nat.le_refl _)
    obtain ⟨c0, c1, c2⟩ := HK.out _ V13
    go_wp2_with fail
    refine (toShape_any o e m _).mono ?_
    rintro r w14 ⟨rfl, b14⟩
    clear c0 c1 c2
    have z14 := b14.size
    have V14 := bstep V13 b14
    have xs__14 := OwnL.below xs__13 b14 (Nat.le_refl _)
    have W__14 := OwnM.below W__13 b14 (Nat.le_refl _)
    have x__14 := OwnL.below x__13 b14 (Nat.le_refl _)
    have G__14 := OwnM.below G__13 b14 (Nat.le_refl _)
    have z__14 := OwnL.below z__13 b14 (Nat.le_refl _)
    go_wp2_with fail
    refine (toIntS_any A n c xs _ (hx0.below V14 (Nat.le_refl _)) hn).mono ?_
    rintro r w15 ⟨A15, c15, rfl, h15, b15⟩
    have z15 := b15.size
    have V15 := bstep V14 b15
    have xs__15 := OwnL.below xs__14 b15 (Nat.le_refl _)
    have W__15 := OwnM.below W__14 b15 (Nat.le_refl _)
    have x__15 := OwnL.below x__14 b15 (Nat.le_refl _)
    have G__15 := OwnM.below G__14 b15 (Nat.le_refl _)
    have z__15 := OwnL.below z__14 b15 (Nat.le_refl _)
    have y__15 := h15
    have y__b := h15
    go_wp2_with fail
    refine (impl_RouteAll o e m A15 n c15 xs w15 (OwnL.rd y__15) (OwnL.cap y__15).1 hn).mono ?_
    rintro r w16 ⟨A16, n16, c16, ys16, t16, rfl, HP16, h16, b16⟩
    have z16 := b16.size
    have V16 := bstep V15 b16
    have xs__16 := OwnL.below xs__15 b16 (Nat.le_refl _)
    have W__16 := OwnM.below W__15 b16 (Nat.le_refl _)
    have x__16 := OwnL.below x__15 b16 (Nat.le_refl _)
    have G__16 := OwnM.below G__15 b16 (Nat.le_refl _)
    have z__16 := OwnL.below z__15 b16 (Nat.le_refl _)
    have y__16 := OwnL.below y__15 b16 (Nat.le_refl _)
    have H__16 := h16
    have H__b := h16
    have HL16 := OwnC.len h16
    have HB16 : Hid (n16 ≤ 1048576) := by show _ ≤ _; rw [← HL16.out]; have := route_len o e m xs; rw [HP16.out] at this; exact this (by rw [hn_len.out]; exact hn)
    go_wp2_with fail
    refine (eqCallS_any A16 A3 n16 n3 c16 c3 ys16 ys3 w16 (OwnC.rd H__16) (OwnC.rd W__16) HB16.out HB3.out).mono ?_
    rintro r w17 ⟨e17, rfl, he17, b17⟩
    have z17 := b17.size
    have V17 := bstep V16 b17
    have xs__17 := OwnL.below xs__16 b17 (Nat.le_refl _)
    have W__17 := OwnM.below W__16 b17 (Nat.le_refl _)
    have x__17 := OwnL.below x__16 b17 (Nat.le_refl _)
    have G__17 := OwnM.below G__16 b17 (Nat.le_refl _)
    have z__17 := OwnL.below z__16 b17 (Nat.le_refl _)
    have y__17 := OwnL.below y__16 b17 (Nat.le_refl _)
    have H__17 := OwnM.below H__16 b17 (Nat.le_refl _)
    obtain rfl := he17.out.2 (by have := HP16.out.symm.trans HP3.out; injection this)
    clear he17
    have ht17 : t16 = t6 := by have := HP16.out.symm.trans HP3.out; injection this
    subst ht17
    go_wp2_with fail
    refine (quiet_below (heldCallS_any A6 n6 c6 zs12 1 w17 (OwnC.rd G__17) HM12.out (by have := HB6.out; omega) (by omega) (by omega))).mono ?_
    rintro r w18 ⟨rfl, b18⟩
    have z18 := b18.size
    have V18 := bstep V17 b18
    have xs__18 := OwnL.below xs__17 b18 (Nat.le_refl _)
    have W__18 := OwnM.below W__17 b18 (Nat.le_refl _)
    have x__18 := OwnL.below x__17 b18 (Nat.le_refl _)
    have G__18 := OwnM.below G__17 b18 (Nat.le_refl _)
    have z__18 := OwnL.below z__17 b18 (Nat.le_refl _)
    have y__18 := OwnL.below y__17 b18 (Nat.le_refl _)
    have H__18 := OwnM.below H__17 b18 (Nat.le_refl _)
    go_wp2
    go_ret
    exact ⟨rfl, bstep B0 V18⟩
  · go_enter Try.func12, Try.ntmps12
    go_wp2
    go_ret
    first | exact ⟨rfl, B0⟩ | (rw [← HW0.out]; exact ⟨rfl, B0⟩)
set_option maxRecDepth 100000 in
theorem lifted (os : Os) (started : os.Started) (H : Type) (enc : TypeId × Value → H) :
    ReturnsInHanded {} Try.checked os 12 .any (Rows.fnExactRouteAllSpec.pre6 enc Try.prog Try.f12 Rows.fnExactRouteAllRow.domain false) (Rows.fnExactRouteAllSpec.post enc Try.prog Try.f12 false true false false) := by
  refine returnsInHanded_of_change (C := Try.checked) own started (by kernel_rfl) Try.func12
    (ChangeSpec.witness6 (enc := enc) (C := Try.checked) false ⟨#[], #[.agg #[.int .i64 0, .int .i64 0, .int .i64 0], .slice none 0 0], []⟩ 8 (by kernel_rfl) (by kernel_rfl) (by kernel_rfl) (by kernel_rfl)) ?_
  intro W base args ds gs before hval0 hW hcnd _
  have hval : ∀ (j : Nat) t v, Try.f12.params[j]? = some t → args[j]? = some v → Value.okWide Try.prog W .any base t v := hval0
  have hW' := hW
  obtain ⟨p, q, hA0, hV, rfl, hfz, hnd⟩ := hW
  have hA : DataW.TrodAll enc Try.prog W 0 (fun _ => true) true Try.f12.params.toList args.toList ds p := hA0
  rw [Try.params12] at hA hval
  obtain ⟨v0, vs0, d0, ds0, p0, q0, hargs, rfl, rfl, k0, r0⟩ := trodAll_cons hA
  obtain ⟨v1, vs1, d1, ds1, p1, q1, rfl, rfl, rfl, k1, r1⟩ := trodAll_cons r0
  obtain ⟨rfl, rfl, rfl⟩ := trodAll_nil r1
  obtain rfl : args = #[v0, v1] := by cases args; simp_all
  obtain ⟨rfl, rfl⟩ := trodVars_none hV
  have lt0 : ∀ x ∈ p0, x.block < W.heap.size := by obtain ⟨m, hm⟩ := k0; exact DataW.trod_lt m _ _ _ hm
  obtain ⟨x0, y0, u0, rfl, f0⟩ := open_shape (hval 0 23 v0 rfl rfl) k0
  have lt1 : ∀ x ∈ p1, x.block < W.heap.size := by obtain ⟨m, hm⟩ := k1; exact DataW.trod_lt m _ _ _ hm
  obtain ⟨a1, n1, c1, rfl⟩ := okWide_slice Try.underlying41 (hval 1 41 v1 rfl rfl)
  obtain ⟨z1, f1⟩ := open_ints (W := W) k1
  clear hA0 hval0
  refine (walk x0 y0 u0 a1 n1 c1 z1 W f0 f1).mono fun e W' ⟨he, bel⟩ => ?_
  subst he
  exact ⟨_, rfl, _, _, _, [], _, [], hW', trodAll_mk1 (shut_bool Try.underlying4 _), (trodAll_cons_mk (Below.trod laidOut (by kernel_rfl) (of_decide_eq_true (by kernel_rfl)) k0 bel lt0) (trodAll_cons_mk (Below.trod laidOut (by kernel_rfl) (of_decide_eq_true (by kernel_rfl)) k1 bel lt1) trodAll_mk0)), rfl, bel.frame _, fun h => by cases h⟩
theorem closed : joinedFacts Try.pinned.checked.prog 12 Try.f12 Rows.fnExactRouteAllSpec Rows.fnExactRouteAllRow = true := by
  unfold joinedFacts
  repeat' (with_reducible refine Bool.and_eq_true_iff.2 ⟨?_, ?_⟩)
  · kernel_rfl
  · exact laidOut
  · kernel_rfl
  · kernel_rfl
  · kernel_rfl
  · kernel_rfl
  · kernel_rfl
  · kernel_rfl
  · kernel_rfl
  · kernel_rfl
  · kernel_rfl
  · kernel_rfl
  · kernel_rfl
  · kernel_rfl
  · kernel_rfl
  · kernel_rfl
  · kernel_rfl
  · kernel_rfl
  · kernel_rfl
  · kernel_rfl
  · kernel_rfl
  · kernel_rfl
  · kernel_rfl
  · kernel_rfl
  · kernel_rfl
  · exact heavy.1
  · exact heavy.2.1
  · exact heavy.2.2
  · kernel_rfl
  · kernel_rfl
  · kernel_rfl
  · kernel_rfl
theorem over : Rows.fnExactRouteAllRow.holds Try.pinned (OpenSpec.ofChange Rows.fnExactRouteAllSpec) :=
  OpenClaim.holds_of_wide 12 Try.f12 rfl rfl rfl rfl rfl rfl rfl ⟨rfl, rfl, rfl, rfl, rfl⟩ rfl rfl rfl rfl rfl (by kernel_rfl) Try.func12 closed
    (of_decide_eq_true (by kernel_rfl)) (by unfold Func.isWrapper; first | (rw [if_pos (by decide +kernel)]; kernel_rfl) | (rw [if_neg (by decide +kernel)]; exact ⟨rfl, rfl⟩))
    (fun os started H enc _ => lifted os started H enc)
theorem proved : Rows.FnExactRouteAllSaid := over
#print axioms proved
end Go.Proofs.Ytldbbphpikdfdaa.exactRouteAll
