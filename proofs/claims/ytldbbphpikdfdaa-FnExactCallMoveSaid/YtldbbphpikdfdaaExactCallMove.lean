/- FnExactCallMove returns true for all arguments: the program's CallMove and the reference's answer the same. No condition. -/
import Derived.Test.YtldbbphpikdfdaaFrame
import Derived.Test.Ytldbbphpikdfdaa4mq
import Derived.Test.Ytldbbphpikdfdaa4mt
import Derived.Test.Ytldbbphpikdfdaa4e
import Derived.Test.YtldbbphpikdfdaaMark
namespace Go.Proofs.Ytldbbphpikdfdaa.exactCallMove
open Go.ChangeShapes Go.WideShapes Go.ChangeAt Go.RowKit
set_option linter.unusedSimpArgs false
set_option linter.unusedVariables false
theorem quiet_below {P : Program} {f : FuncId} {args : Array Value} {w : World} {v : Ending} (h : Calls P f args w fun e w' => e = v ∧ ∃ m, w' = w.drewN m) : Calls P f args w fun e w' => e = v ∧ Below w.heap.size w w' :=
  h.mono fun _ _ ⟨he, m, hm⟩ => ⟨he, by rw [hm]; exact below_drewN (Below.refl _ _) m⟩
theorem retB_M {P : Program} {f : FuncId} {args : Array Value} {w : World} {p : Prop} (h : Calls P f args w (RetB p w)) : Calls P f args w (RetM p w) :=
  h.mono fun _ _ ⟨b, he, hb, m, hm⟩ => ⟨b, he, hb, by rw [hm]; exact below_drewN (Below.refl _ _) m⟩
set_option maxRecDepth 100000 in
set_option maxHeartbeats 4000000 in
theorem walk (o e m : Int) (A : Option Addr) (n c : Nat) (xs : List Cl) (i : Int) (q : Int) (w : World) (f0 : (Lit.int .i64 o).wf = true ∧ (Lit.int .i64 e).wf = true ∧ (Lit.int .i64 m).wf = true) (f : RdC w A n xs ∧ n ≤ c ∧ c ≤ maxLen ∧ ∀ z ∈ xs, (Lit.int .i64 z.i).wf = true ∧ (Lit.int .i64 z.o).wf = true ∧ (Lit.int .i64 z.v).wf = true) (fi : (Lit.int .i64 i).wf = true) (fq : (Lit.int .i64 q).wf = true) :
    Calls Try.prog 11 #[.agg #[.int .i64 o, .int .i64 e, .int .i64 m], .slice A n c, .int .i64 i, .int .i64 q] w fun x w' => x = .returned (.bool true) ∧ Below w.heap.size w w' := by
  clear f0
  obtain ⟨hx, hc1, hc2, -⟩ := f
  have B0 := below_box w (.cells #[.int .i64 o, .int .i64 e, .int .i64 m] 23)
  have K0 : ∀ w' : World, Below (w.alloc (.cells #[.int .i64 o, .int .i64 e, .int .i64 m] 23)).heap.size (w.alloc (.cells #[.int .i64 o, .int .i64 e, .int .i64 m] 23)) w' → w'.cell? ⟨w.heap.size, 0, none⟩ = some (.int .i64 o) ∧ w'.cell? ⟨w.heap.size, 1, none⟩ = some (.int .i64 e) ∧ w'.cell? ⟨w.heap.size, 2, none⟩ = some (.int .i64 m) := fun w' b => ⟨(b.cell (p := ⟨w.heap.size, 0, none⟩) (by simp)).trans (by simp), (b.cell (p := ⟨w.heap.size, 1, none⟩) (by simp)).trans (by simp), (b.cell (p := ⟨w.heap.size, 2, none⟩) (by simp)).trans (by simp)⟩
  have HK := Lib.hid K0; clear K0
  obtain ⟨W0, HW0⟩ : ∃ W0, Hid (W0 = w.alloc (.cells #[.int .i64 o, .int .i64 e, .int .i64 m] 23)) := ⟨_, rfl⟩
  rw [← HW0.out] at B0 HK
  have hx0 := hx.below B0 (Nat.le_refl _)
  have hz0 := B0.size
  have hn_len : Hid (xs.length = n) := hx.1
  by_cases hn : n ≤ 1048576
  · go_enter Try.func11, Try.ntmps11
    have V0 := Below.refl W0.heap.size W0
    go_wp2_with fail
    rw [← HW0.out]
    refine (quiet_below (szCallS_any A n c 1048576 _ (by omega) (by omega) (by omega))).mono ?_
    rintro r w1 ⟨rfl, b1⟩
    have z1 := b1.size
    have V1 := bstep V0 b1
    rw [if_pos (by omega)]
    obtain ⟨c0, c1, c2⟩ := HK.out _ V1
    go_wp2_with fail
    refine (toShape_any o e m _).mono ?_
    rintro r w2 ⟨rfl, b2⟩
    clear c0 c1 c2
    have z2 := b2.size
    have V2 := bstep V1 b2
    go_wp2_with fail
    refine (toCallS_any A n c xs _ (hx0.below V2 (Nat.le_refl _)) hn).mono ?_
    rintro r w3 ⟨A3, c3, rfl, h3, b3⟩
    have z3 := b3.size
    have V3 := bstep V2 b3
    have xs__3 := h3
    have xs__b := h3
    go_wp2_with fail
    refine (spec_CallMove o e m A3 n c3 xs i q w3 (OwnC.rd xs__3) (OwnM.cap xs__3).1 hn).mono ?_
    rintro r w4 ⟨A4, n4, c4, ys4, t4, rfl, HP4, h4, b4⟩
    have z4 := b4.size
    have V4 := bstep V3 b4
    have xs__4 := OwnM.below xs__3 b4 (Nat.le_refl _)
    have W__4 := h4
    have W__b := h4
    have HL4 := OwnC.len h4
    have HB4 : Hid (n4 ≤ 1048576) := by show _ ≤ _; rw [← HL4.out]; have := move_len o e m xs i q; rw [HP4.out] at this; exact this (by rw [hn_len.out]; exact hn)
    go_wp2_with fail
    refine (toCallS_any A n c xs _ (hx0.below V4 (Nat.le_refl _)) hn).mono ?_
    rintro r w5 ⟨A5, c5, rfl, h5, b5⟩
    have z5 := b5.size
    have V5 := bstep V4 b5
    have xs__5 := OwnM.below xs__4 b5 (Nat.le_refl _)
    have W__5 := OwnM.below W__4 b5 (Nat.le_refl _)
    have x__5 := h5
    have x__b := h5
    obtain ⟨c0, c1, c2⟩ := HK.out _ V5
    go_wp2_with fail
    refine (toShape_any o e m _).mono ?_
    rintro r w6 ⟨rfl, b6⟩
    clear c0 c1 c2
    have z6 := b6.size
    have V6 := bstep V5 b6
    have xs__6 := OwnM.below xs__5 b6 (Nat.le_refl _)
    have W__6 := OwnM.below W__5 b6 (Nat.le_refl _)
    have x__6 := OwnM.below x__5 b6 (Nat.le_refl _)
    go_wp2_with fail
    refine (impl_CallMove o e m A5 n c5 xs i q w6 (OwnC.rd x__6) (OwnM.cap x__6).1 hn).mono ?_
    rintro r w7 ⟨A7, n7, c7, ys7, t7, rfl, HP7, h7, b7⟩
    have z7 := b7.size
    have V7 := bstep V6 b7
    have xs__7 := OwnM.below xs__6 b7 (Nat.le_refl _)
    have W__7 := OwnM.below W__6 b7 (Nat.le_refl _)
    have x__7 := OwnM.below x__6 b7 (Nat.le_refl _)
    have G__7 := h7
    have G__b := h7
    have HL7 := OwnC.len h7
    have HB7 : Hid (n7 ≤ 1048576) := by show _ ≤ _; rw [← HL7.out]; have := move_len o e m xs i q; rw [HP7.out] at this; exact this (by rw [hn_len.out]; exact hn)
    go_wp2_with fail
    refine (eqCallS_any A7 A4 n7 n4 c7 c4 ys7 ys4 w7 (OwnC.rd G__7) (OwnC.rd W__7) HB7.out HB4.out).mono ?_
    rintro r w8 ⟨e8, rfl, he8, b8⟩
    have z8 := b8.size
    have V8 := bstep V7 b8
    have xs__8 := OwnM.below xs__7 b8 (Nat.le_refl _)
    have W__8 := OwnM.below W__7 b8 (Nat.le_refl _)
    have x__8 := OwnM.below x__7 b8 (Nat.le_refl _)
    have G__8 := OwnM.below G__7 b8 (Nat.le_refl _)
    obtain rfl := he8.out.2 (by have := HP7.out.symm.trans HP4.out; injection this)
    clear he8
    have ht8 : t7 = t4 := by have := HP7.out.symm.trans HP4.out; injection this
    subst ht8
    go_wp2_with fail
    refine (toCallS_any A n c xs _ (hx0.below V8 (Nat.le_refl _)) hn).mono ?_
    rintro r w9 ⟨A9, c9, rfl, h9, b9⟩
    have z9 := b9.size
    have V9 := bstep V8 b9
    have xs__9 := OwnM.below xs__8 b9 (Nat.le_refl _)
    have W__9 := OwnM.below W__8 b9 (Nat.le_refl _)
    have x__9 := OwnM.below x__8 b9 (Nat.le_refl _)
    have G__9 := OwnM.below G__8 b9 (Nat.le_refl _)
    have z__9 := h9
    have z__b := h9
    go_wp2_with fail
    refine (eqCallS_any A5 A9 n n c5 c9 xs xs w9 (OwnC.rd x__9) (OwnC.rd z__9) hn hn).mono ?_
    rintro r w10 ⟨e10, rfl, he10, b10⟩
    have z10 := b10.size
    have V10 := bstep V9 b10
    have xs__10 := OwnM.below xs__9 b10 (Nat.le_refl _)
    have W__10 := OwnM.below W__9 b10 (Nat.le_refl _)
    have x__10 := OwnM.below x__9 b10 (Nat.le_refl _)
    have G__10 := OwnM.below G__9 b10 (Nat.le_refl _)
    have z__10 := OwnM.below z__9 b10 (Nat.le_refl _)
    obtain rfl := he10.out.2 rfl
    clear he10
    go_wp2_with fail
    refine (markCallS_any A5 n c5 _ 1 _ w10 x__10 (by have := hn; omega) (by omega) (by omega)).mono ?_
    rintro r w11 ⟨zs11, rfl, HM11, x_'11, G11⟩
    have z11 := G11.size
    have V11 := bgrown V10 G11 V10.size (fun g hg => by have := (OwnM.lt x__10 hg).1; omega)
    have xs__11 := OwnM.grown xs__10 G11 (fun g hg hb => by have h1 := OwnM.lt x__b hg; have h2 := OwnM.lt xs__b hb; omega)
    have W__11 := OwnM.grown W__10 G11 (fun g hg hb => by have h1 := OwnM.lt x__b hg; have h2 := OwnM.lt W__b hb; omega)
    have x__11 := x_'11
    have G__11 := OwnM.grown G__10 G11 (fun g hg hb => by have h1 := OwnM.lt x__b hg; have h2 := OwnM.lt G__b hb; omega)
    have z__11 := OwnM.grown z__10 G11 (fun g hg hb => by have h1 := OwnM.lt x__b hg; have h2 := OwnM.lt z__b hb; omega)
    go_wp2_with fail
    refine (eqCallS_any A7 A4 n7 n4 c7 c4 ys7 ys4 w11 (OwnC.rd G__11) (OwnC.rd W__11) HB7.out HB4.out).mono ?_
    rintro r w12 ⟨e12, rfl, he12, b12⟩
    have z12 := b12.size
    have V12 := bstep V11 b12
    have xs__12 := OwnM.below xs__11 b12 (Nat.le_refl _)
    have W__12 := OwnM.below W__11 b12 (Nat.le_refl _)
    have x__12 := OwnM.below x__11 b12 (Nat.le_refl _)
    have G__12 := OwnM.below G__11 b12 (Nat.le_refl _)
    have z__12 := OwnM.below z__11 b12 (Nat.le_refl _)
    obtain rfl := he12.out.2 (by have := HP7.out.symm.trans HP4.out; injection this)
    clear he12
    go_wp2_with fail
    refine (markCallS_any A7 n7 c7 _ 1 _ w12 G__12 (by have := HB7.out; omega) (by omega) (by omega)).mono ?_
    rintro r w13 ⟨zs13, rfl, HM13, G_'13, G13⟩
    have z13 := G13.size
    have V13 := bgrown V12 G13 V12.size (fun g hg => by have := (OwnM.lt G__12 hg).1; omega)
    have xs__13 := OwnM.grown xs__12 G13 (fun g hg hb => by have h1 := OwnM.lt G__b hg; have h2 := OwnM.lt xs__b hb; omega)
    have W__13 := OwnM.grown W__12 G13 (fun g hg hb => by have h1 := OwnM.lt G__b hg; have h2 := OwnM.lt W__b hb; omega)
    have x__13 := OwnM.grown x__12 G13 (fun g hg hb => by have h1 := OwnM.lt G__b hg; have h2 := OwnM.lt x__b hb; omega)
    have G__13 := G_'13
    have z__13 := OwnM.grown z__12 G13 (fun g hg hb => by have h1 := OwnM.lt G__b hg; have h2 := OwnM.lt z__b hb; omega)
    have hbg := HB7.out
    go_wp2_with fail
    refine (quiet_below (heldCallS_any A7 n7 c7 zs13 1 w13 (OwnC.rd G__13) HM13.out (by have := HB7.out; omega) (by omega) (by omega))).mono ?_
    rintro r w14 ⟨rfl, b14⟩
    have z14 := b14.size
    have V14 := bstep V13 b14
    have xs__14 := OwnM.below xs__13 b14 (Nat.le_refl _)
    have W__14 := OwnM.below W__13 b14 (Nat.le_refl _)
    have x__14 := OwnM.below x__13 b14 (Nat.le_refl _)
    have G__14 := OwnM.below G__13 b14 (Nat.le_refl _)
    have z__14 := OwnM.below z__13 b14 (Nat.le_refl _)
    obtain ⟨c0, c1, c2⟩ := HK.out _ V14
    go_wp2_with fail
    refine (toShape_any o e m _).mono ?_
    rintro r w15 ⟨rfl, b15⟩
    clear c0 c1 c2
    have z15 := b15.size
    have V15 := bstep V14 b15
    have xs__15 := OwnM.below xs__14 b15 (Nat.le_refl _)
    have W__15 := OwnM.below W__14 b15 (Nat.le_refl _)
    have x__15 := OwnM.below x__14 b15 (Nat.le_refl _)
    have G__15 := OwnM.below G__14 b15 (Nat.le_refl _)
    have z__15 := OwnM.below z__14 b15 (Nat.le_refl _)
    go_wp2_with fail
    refine (toCallS_any A n c xs _ (hx0.below V15 (Nat.le_refl _)) hn).mono ?_
    rintro r w16 ⟨A16, c16, rfl, h16, b16⟩
    have z16 := b16.size
    have V16 := bstep V15 b16
    have xs__16 := OwnM.below xs__15 b16 (Nat.le_refl _)
    have W__16 := OwnM.below W__15 b16 (Nat.le_refl _)
    have x__16 := OwnM.below x__15 b16 (Nat.le_refl _)
    have G__16 := OwnM.below G__15 b16 (Nat.le_refl _)
    have z__16 := OwnM.below z__15 b16 (Nat.le_refl _)
    have y__16 := h16
    have y__b := h16
    go_wp2_with fail
    refine (impl_CallMove o e m A16 n c16 xs i q w16 (OwnC.rd y__16) (OwnM.cap y__16).1 hn).mono ?_
    rintro r w17 ⟨A17, n17, c17, ys17, t17, rfl, HP17, h17, b17⟩
    have z17 := b17.size
    have V17 := bstep V16 b17
    have xs__17 := OwnM.below xs__16 b17 (Nat.le_refl _)
    have W__17 := OwnM.below W__16 b17 (Nat.le_refl _)
    have x__17 := OwnM.below x__16 b17 (Nat.le_refl _)
    have G__17 := OwnM.below G__16 b17 (Nat.le_refl _)
    have z__17 := OwnM.below z__16 b17 (Nat.le_refl _)
    have y__17 := OwnM.below y__16 b17 (Nat.le_refl _)
    have H__17 := h17
    have H__b := h17
    have HL17 := OwnC.len h17
    have HB17 : Hid (n17 ≤ 1048576) := by show _ ≤ _; rw [← HL17.out]; have := move_len o e m xs i q; rw [HP17.out] at this; exact this (by rw [hn_len.out]; exact hn)
    go_wp2_with fail
    refine (eqCallS_any A17 A4 n17 n4 c17 c4 ys17 ys4 w17 (OwnC.rd H__17) (OwnC.rd W__17) HB17.out HB4.out).mono ?_
    rintro r w18 ⟨e18, rfl, he18, b18⟩
    have z18 := b18.size
    have V18 := bstep V17 b18
    have xs__18 := OwnM.below xs__17 b18 (Nat.le_refl _)
    have W__18 := OwnM.below W__17 b18 (Nat.le_refl _)
    have x__18 := OwnM.below x__17 b18 (Nat.le_refl _)
    have G__18 := OwnM.below G__17 b18 (Nat.le_refl _)
    have z__18 := OwnM.below z__17 b18 (Nat.le_refl _)
    have y__18 := OwnM.below y__17 b18 (Nat.le_refl _)
    have H__18 := OwnM.below H__17 b18 (Nat.le_refl _)
    obtain rfl := he18.out.2 (by have := HP17.out.symm.trans HP4.out; injection this)
    clear he18
    have ht18 : t17 = t7 := by have := HP17.out.symm.trans HP4.out; injection this
    subst ht18
    go_wp2_with fail
    refine (quiet_below (heldCallS_any A7 n7 c7 zs13 1 w18 (OwnC.rd G__18) HM13.out (by have := HB7.out; omega) (by omega) (by omega))).mono ?_
    rintro r w19 ⟨rfl, b19⟩
    have z19 := b19.size
    have V19 := bstep V18 b19
    have xs__19 := OwnM.below xs__18 b19 (Nat.le_refl _)
    have W__19 := OwnM.below W__18 b19 (Nat.le_refl _)
    have x__19 := OwnM.below x__18 b19 (Nat.le_refl _)
    have G__19 := OwnM.below G__18 b19 (Nat.le_refl _)
    have z__19 := OwnM.below z__18 b19 (Nat.le_refl _)
    have y__19 := OwnM.below y__18 b19 (Nat.le_refl _)
    have H__19 := OwnM.below H__18 b19 (Nat.le_refl _)
    go_wp2
    go_ret
    exact ⟨rfl, bstep B0 V19⟩
  · go_enter Try.func11, Try.ntmps11
    go_wp2_with fail
    rw [← HW0.out]
    refine (szCallS_any A n c 1048576 _ (by omega) (by omega) (by omega)).mono ?_
    rintro r w1 ⟨rfl, m1, rfl⟩
    rw [if_neg (by omega)]
    go_wp2
    go_ret
    exact ⟨rfl, bstep B0 (below_drewN (Below.refl _ _) _)⟩
set_option maxRecDepth 100000 in
theorem lifted (os : Os) (started : os.Started) (H : Type) (enc : TypeId × Value → H) :
    ReturnsInHanded {} Try.checked os 11 .any (Rows.fnExactCallMoveSpec.pre6 enc Try.prog Try.f11 Rows.fnExactCallMoveRow.domain false) (Rows.fnExactCallMoveSpec.post enc Try.prog Try.f11 false true false false) := by
  refine returnsInHanded_of_change (C := Try.checked) own started (by kernel_rfl) Try.func11
    (ChangeSpec.witness6 (enc := enc) (C := Try.checked) false ⟨#[], #[.agg #[.int .i64 0, .int .i64 0, .int .i64 0], .slice none 0 0, .int .i64 0, .int .i64 0], []⟩ 8 (by kernel_rfl) (by kernel_rfl) (by kernel_rfl) (by kernel_rfl)) ?_
  intro W base args ds gs before hval0 hW hcnd _
  have hval : ∀ (j : Nat) t v, Try.f11.params[j]? = some t → args[j]? = some v → Value.okWide Try.prog W .any base t v := hval0
  have hW' := hW
  obtain ⟨p, q, hA0, hV, rfl, hfz, hnd⟩ := hW
  have hA : DataW.TrodAll enc Try.prog W 0 (fun _ => true) true Try.f11.params.toList args.toList ds p := hA0
  rw [Try.params11] at hA hval
  obtain ⟨v0, vs0, d0, ds0, p0, q0, hargs, rfl, rfl, k0, r0⟩ := trodAll_cons hA
  obtain ⟨v1, vs1, d1, ds1, p1, q1, rfl, rfl, rfl, k1, r1⟩ := trodAll_cons r0
  obtain ⟨v2, vs2, d2, ds2, p2, q2, rfl, rfl, rfl, k2, r2⟩ := trodAll_cons r1
  obtain ⟨v3, vs3, d3, ds3, p3, q3, rfl, rfl, rfl, k3, r3⟩ := trodAll_cons r2
  obtain ⟨rfl, rfl, rfl⟩ := trodAll_nil r3
  obtain rfl : args = #[v0, v1, v2, v3] := by cases args; simp_all
  obtain ⟨rfl, rfl⟩ := trodVars_none hV
  have lt0 : ∀ x ∈ p0, x.block < W.heap.size := by obtain ⟨m, hm⟩ := k0; exact DataW.trod_lt m _ _ _ hm
  obtain ⟨x0, y0, u0, rfl, f0⟩ := open_shape (hval 0 23 v0 rfl rfl) k0
  have lt1 : ∀ x ∈ p1, x.block < W.heap.size := by obtain ⟨m, hm⟩ := k1; exact DataW.trod_lt m _ _ _ hm
  obtain ⟨a1, n1, c1, rfl⟩ := okWide_slice Try.underlying28 (hval 1 28 v1 rfl rfl)
  obtain ⟨z1, f1⟩ := open_calls (W := W) k1
  have lt2 : ∀ x ∈ p2, x.block < W.heap.size := by obtain ⟨m, hm⟩ := k2; exact DataW.trod_lt m _ _ _ hm
  obtain ⟨x2, rfl, _, _, f2⟩ := open_int Try.underlying3 (hval 2 3 v2 rfl rfl) k2
  have lt3 : ∀ x ∈ p3, x.block < W.heap.size := by obtain ⟨m, hm⟩ := k3; exact DataW.trod_lt m _ _ _ hm
  obtain ⟨x3, rfl, _, _, f3⟩ := open_int Try.underlying3 (hval 3 3 v3 rfl rfl) k3
  clear hA0 hval0
  refine (walk x0 y0 u0 a1 n1 c1 z1 x2 x3 W f0 f1 f2 f3).mono fun e W' ⟨he, bel⟩ => ?_
  subst he
  exact ⟨_, rfl, _, _, _, [], _, [], hW', trodAll_mk1 (shut_bool Try.underlying4 _), (trodAll_cons_mk (Below.trod laidOut (by kernel_rfl) (of_decide_eq_true (by kernel_rfl)) k0 bel lt0) (trodAll_cons_mk (Below.trod laidOut (by kernel_rfl) (of_decide_eq_true (by kernel_rfl)) k1 bel lt1) (trodAll_cons_mk (Below.trod laidOut (by kernel_rfl) (of_decide_eq_true (by kernel_rfl)) k2 bel lt2) (trodAll_cons_mk (Below.trod laidOut (by kernel_rfl) (of_decide_eq_true (by kernel_rfl)) k3 bel lt3) trodAll_mk0)))), rfl, bel.frame _, fun h => by cases h⟩
theorem closed : joinedFacts Try.pinned.checked.prog 11 Try.f11 Rows.fnExactCallMoveSpec Rows.fnExactCallMoveRow = true := by
  unfold joinedFacts
  repeat' (with_reducible refine Bool.and_eq_true_iff.2 ⟨?_, ?_⟩)
  · kernel_rfl
  · exact laidOut
  · kernel_rfl
  · kernel_rfl
  · kernel_rfl
  · kernel_rfl
  · kernel_rfl
  · kernel_rfl
  · kernel_rfl
  · kernel_rfl
  · kernel_rfl
  · kernel_rfl
  · kernel_rfl
  · kernel_rfl
  · kernel_rfl
  · kernel_rfl
  · kernel_rfl
  · kernel_rfl
  · kernel_rfl
  · kernel_rfl
  · kernel_rfl
  · kernel_rfl
  · kernel_rfl
  · kernel_rfl
  · kernel_rfl
  · exact heavy.1
  · exact heavy.2.1
  · exact heavy.2.2
  · kernel_rfl
  · kernel_rfl
  · kernel_rfl
  · kernel_rfl
theorem over : Rows.fnExactCallMoveRow.holds Try.pinned (OpenSpec.ofChange Rows.fnExactCallMoveSpec) :=
  OpenClaim.holds_of_wide 11 Try.f11 rfl rfl rfl rfl rfl rfl rfl ⟨rfl, rfl, rfl, rfl, rfl⟩ rfl rfl rfl rfl rfl (by kernel_rfl) Try.func11 closed
    (of_decide_eq_true (by kernel_rfl)) (by unfold Func.isWrapper; first | (rw [if_pos (by decide +kernel)]; kernel_rfl) | (rw [if_neg (by decide +kernel)]; exact ⟨rfl, rfl⟩))
    (fun os started H enc _ => lifted os started H enc)
theorem proved : Rows.FnExactCallMoveSaid := over
#print axioms proved
end Go.Proofs.Ytldbbphpikdfdaa.exactCallMove
