/- FnExactLoopSet returns true for all arguments: the program's LoopSet and the reference's answer the same. No condition. -/
import Derived.Test.YtiahpaakkijejaaFrame
import Derived.Test.Ytiahpaakkijejaa3k
import Derived.Test.YtiahpaakkijejaaMark
namespace Go.Proofs.Ytiahpaakkijejaa.exactLoopSet
open Go.ChangeShapes Go.WideShapes Go.ChangeAt Go.RowKit
set_option linter.unusedSimpArgs false
set_option linter.unusedVariables false
theorem quiet_below {P : Program} {f : FuncId} {args : Array Value} {w : World} {v : Ending} (h : Calls P f args w fun e w' => e = v ∧ ∃ m, w' = w.drewN m) : Calls P f args w fun e w' => e = v ∧ Below w.heap.size w w' :=
  h.mono fun _ _ ⟨he, m, hm⟩ => ⟨he, by rw [hm]; exact below_drewN (Below.refl _ _) m⟩
theorem retB_M {P : Program} {f : FuncId} {args : Array Value} {w : World} {p : Prop} (h : Calls P f args w (RetB p w)) : Calls P f args w (RetM p w) :=
  h.mono fun _ _ ⟨b, he, hb, m, hm⟩ => ⟨b, he, hb, by rw [hm]; exact below_drewN (Below.refl _ _) m⟩
set_option maxRecDepth 100000 in
set_option maxHeartbeats 4000000 in
theorem walk (A : Option Addr) (n c : Nat) (xs : List Int) (w : World) (f : RdL iv w A n xs ∧ n ≤ c ∧ c ≤ maxLen ∧ ∀ z ∈ xs, (Lit.int .i64 z).wf = true) :
    Calls Try.prog 9 #[.slice A n c] w fun x w' => x = .returned (.bool true) ∧ Below w.heap.size w w' := by
  obtain ⟨hx, hc1, hc2, -⟩ := f
  have B0 := Below.refl w.heap.size w
  obtain ⟨W0, HW0⟩ : ∃ W0, Hid (W0 = w) := ⟨_, rfl⟩
  have B0 : Below w.heap.size w W0 := by rw [HW0.out]; exact Below.refl _ _
  have hx0 := hx.below B0 (Nat.le_refl _)
  have hz0 := B0.size
  have hn_len : Hid (xs.length = n) := hx.1
  by_cases hn : n ≤ 1048576
  · go_enter Try.func9, Try.ntmps9
    have V0 := Below.refl W0.heap.size W0
    go_wp2_with fail
    rw [← HW0.out]
    refine (toIntS_any A n c xs _ (hx0.below V0 (Nat.le_refl _)) hn).mono ?_
    rintro r w1 ⟨A1, c1, rfl, h1, b1⟩
    have z1 := b1.size
    have V1 := bstep V0 b1
    have xs__1 := h1
    have xs__b := h1
    go_wp2_with fail
    refine (spec_LoopSet A1 n c1 xs w1 (OwnL.rd xs__1) (OwnL.cap xs__1).1 hn).mono ?_
    rintro r w2 ⟨A2, n2, c2, ys2, t2, rfl, HP2, h2, b2⟩
    have z2 := b2.size
    have V2 := bstep V1 b2
    have xs__2 := OwnL.below xs__1 b2 (Nat.le_refl _)
    have W__2 := h2
    have W__b := h2
    have HL2 := OwnL.len h2
    have HB2 : Hid (n2 ≤ 1048576) := by show _ ≤ _; rw [← HL2.out]; have := ls_len xs; rw [HP2.out] at this; exact this (by rw [hn_len.out]; exact hn)
    go_wp2_with fail
    refine (toIntS_any A n c xs _ (hx0.below V2 (Nat.le_refl _)) hn).mono ?_
    rintro r w3 ⟨A3, c3, rfl, h3, b3⟩
    have z3 := b3.size
    have V3 := bstep V2 b3
    have xs__3 := OwnL.below xs__2 b3 (Nat.le_refl _)
    have W__3 := OwnL.below W__2 b3 (Nat.le_refl _)
    have x__3 := h3
    have x__b := h3
    go_wp2_with fail
    refine (impl_LoopSet A3 n c3 xs w3 (OwnL.rd x__3) (OwnL.cap x__3).1 hn).mono ?_
    rintro r w4 ⟨A4, n4, c4, ys4, t4, rfl, HP4, h4, b4⟩
    have z4 := b4.size
    have V4 := bstep V3 b4
    have xs__4 := OwnL.below xs__3 b4 (Nat.le_refl _)
    have W__4 := OwnL.below W__3 b4 (Nat.le_refl _)
    have x__4 := OwnL.below x__3 b4 (Nat.le_refl _)
    have G__4 := h4
    have G__b := h4
    have HL4 := OwnL.len h4
    have HB4 : Hid (n4 ≤ 1048576) := by show _ ≤ _; rw [← HL4.out]; have := ls_len xs; rw [HP4.out] at this; exact this (by rw [hn_len.out]; exact hn)
    go_wp2_with fail
    refine (retB_M (eqBoolS_any A4 A2 n4 n2 c4 c2 ys4 ys2 w4 (OwnL.rd G__4) (OwnL.rd W__4) HB4.out HB2.out)).mono ?_
    rintro r w5 ⟨e5, rfl, he5, b5⟩
    have z5 := b5.size
    have V5 := bstep V4 b5
    have xs__5 := OwnL.below xs__4 b5 (Nat.le_refl _)
    have W__5 := OwnL.below W__4 b5 (Nat.le_refl _)
    have x__5 := OwnL.below x__4 b5 (Nat.le_refl _)
    have G__5 := OwnL.below G__4 b5 (Nat.le_refl _)
    obtain rfl := he5.out.2 (by have := HP4.out.symm.trans HP2.out; injection this)
    clear he5
    have ht5 : t4 = t2 := by have := HP4.out.symm.trans HP2.out; injection this
    subst ht5
    go_wp2_with fail
    refine (toIntS_any A n c xs _ (hx0.below V5 (Nat.le_refl _)) hn).mono ?_
    rintro r w6 ⟨A6, c6, rfl, h6, b6⟩
    have z6 := b6.size
    have V6 := bstep V5 b6
    have xs__6 := OwnL.below xs__5 b6 (Nat.le_refl _)
    have W__6 := OwnL.below W__5 b6 (Nat.le_refl _)
    have x__6 := OwnL.below x__5 b6 (Nat.le_refl _)
    have G__6 := OwnL.below G__5 b6 (Nat.le_refl _)
    have z__6 := h6
    have z__b := h6
    go_wp2_with fail
    refine (retB_M (eqIntS_any A3 A6 n n c3 c6 xs xs w6 (OwnL.rd x__6) (OwnL.rd z__6) hn hn)).mono ?_
    rintro r w7 ⟨e7, rfl, he7, b7⟩
    have z7 := b7.size
    have V7 := bstep V6 b7
    have xs__7 := OwnL.below xs__6 b7 (Nat.le_refl _)
    have W__7 := OwnL.below W__6 b7 (Nat.le_refl _)
    have x__7 := OwnL.below x__6 b7 (Nat.le_refl _)
    have G__7 := OwnL.below G__6 b7 (Nat.le_refl _)
    have z__7 := OwnL.below z__6 b7 (Nat.le_refl _)
    obtain rfl := he7.out.2 rfl
    clear he7
    go_wp2_with fail
    refine (markIntS_any A3 n c3 _ 1 _ w7 x__7 (by have := hn; omega) (by omega) (by omega)).mono ?_
    rintro r w8 ⟨zs8, rfl, HM8, x_'8, G8⟩
    have z8 := G8.size
    have V8 := bgrown V7 G8 V7.size (fun g hg => by have := (OwnL.lt x__7 hg).1; omega)
    have xs__8 := OwnL.grown xs__7 G8 (fun g hg hb => by have h1 := OwnL.lt x__b hg; have h2 := OwnL.lt xs__b hb; omega)
    have W__8 := OwnL.grown W__7 G8 (fun g hg hb => by have h1 := OwnL.lt x__b hg; have h2 := OwnL.lt W__b hb; omega)
    have x__8 := x_'8
    have G__8 := OwnL.grown G__7 G8 (fun g hg hb => by have h1 := OwnL.lt x__b hg; have h2 := OwnL.lt G__b hb; omega)
    have z__8 := OwnL.grown z__7 G8 (fun g hg hb => by have h1 := OwnL.lt x__b hg; have h2 := OwnL.lt z__b hb; omega)
    go_wp2_with fail
    refine (retB_M (eqBoolS_any A4 A2 n4 n2 c4 c2 ys4 ys2 w8 (OwnL.rd G__8) (OwnL.rd W__8) HB4.out HB2.out)).mono ?_
    rintro r w9 ⟨e9, rfl, he9, b9⟩
    have z9 := b9.size
    have V9 := bstep V8 b9
    have xs__9 := OwnL.below xs__8 b9 (Nat.le_refl _)
    have W__9 := OwnL.below W__8 b9 (Nat.le_refl _)
    have x__9 := OwnL.below x__8 b9 (Nat.le_refl _)
    have G__9 := OwnL.below G__8 b9 (Nat.le_refl _)
    have z__9 := OwnL.below z__8 b9 (Nat.le_refl _)
    obtain rfl := he9.out.2 (by have := HP4.out.symm.trans HP2.out; injection this)
    clear he9
    go_wp2_with fail
    refine (markBoolS_any A4 n4 c4 _ 1 _ w9 G__9 (by have := HB4.out; omega) (by omega) (by omega)).mono ?_
    rintro r w10 ⟨zs10, rfl, HM10, G_'10, G10⟩
    have z10 := G10.size
    have V10 := bgrown V9 G10 V9.size (fun g hg => by have := (OwnL.lt G__9 hg).1; omega)
    have xs__10 := OwnL.grown xs__9 G10 (fun g hg hb => by have h1 := OwnL.lt G__b hg; have h2 := OwnL.lt xs__b hb; omega)
    have W__10 := OwnL.grown W__9 G10 (fun g hg hb => by have h1 := OwnL.lt G__b hg; have h2 := OwnL.lt W__b hb; omega)
    have x__10 := OwnL.grown x__9 G10 (fun g hg hb => by have h1 := OwnL.lt G__b hg; have h2 := OwnL.lt x__b hb; omega)
    have G__10 := G_'10
    have z__10 := OwnL.grown z__9 G10 (fun g hg hb => by have h1 := OwnL.lt G__b hg; have h2 := OwnL.lt z__b hb; omega)
    have hbg := HB4.out
    go_wp2_with fail
    refine (quiet_below (heldBoolS_any A4 n4 c4 zs10 1 w10 (OwnL.rd G__10) HM10.out (by have := HB4.out; omega) (by omega) (by omega))).mono ?_
    rintro r w11 ⟨rfl, b11⟩
    have z11 := b11.size
    have V11 := bstep V10 b11
    have xs__11 := OwnL.below xs__10 b11 (Nat.le_refl _)
    have W__11 := OwnL.below W__10 b11 (Nat.le_refl _)
    have x__11 := OwnL.below x__10 b11 (Nat.le_refl _)
    have G__11 := OwnL.below G__10 b11 (Nat.le_refl _)
    have z__11 := OwnL.below z__10 b11 (Nat.le_refl _)
    go_wp2_with fail
    refine (toIntS_any A n c xs _ (hx0.below V11 (Nat.le_refl _)) hn).mono ?_
    rintro r w12 ⟨A12, c12, rfl, h12, b12⟩
    have z12 := b12.size
    have V12 := bstep V11 b12
    have xs__12 := OwnL.below xs__11 b12 (Nat.le_refl _)
    have W__12 := OwnL.below W__11 b12 (Nat.le_refl _)
    have x__12 := OwnL.below x__11 b12 (Nat.le_refl _)
    have G__12 := OwnL.below G__11 b12 (Nat.le_refl _)
    have z__12 := OwnL.below z__11 b12 (Nat.le_refl _)
    have y__12 := h12
    have y__b := h12
    go_wp2_with fail
    refine (impl_LoopSet A12 n c12 xs w12 (OwnL.rd y__12) (OwnL.cap y__12).1 hn).mono ?_
    rintro r w13 ⟨A13, n13, c13, ys13, t13, rfl, HP13, h13, b13⟩
    have z13 := b13.size
    have V13 := bstep V12 b13
    have xs__13 := OwnL.below xs__12 b13 (Nat.le_refl _)
    have W__13 := OwnL.below W__12 b13 (Nat.le_refl _)
    have x__13 := OwnL.below x__12 b13 (Nat.le_refl _)
    have G__13 := OwnL.below G__12 b13 (Nat.le_refl _)
    have z__13 := OwnL.below z__12 b13 (Nat.le_refl _)
    have y__13 := OwnL.below y__12 b13 (Nat.le_refl _)
    have H__13 := h13
    have H__b := h13
    have HL13 := OwnL.len h13
    have HB13 : Hid (n13 ≤ 1048576) := by show _ ≤ _; rw [← HL13.out]; have := ls_len xs; rw [HP13.out] at this; exact this (by rw [hn_len.out]; exact hn)
    go_wp2_with fail
    refine (retB_M (eqBoolS_any A13 A2 n13 n2 c13 c2 ys13 ys2 w13 (OwnL.rd H__13) (OwnL.rd W__13) HB13.out HB2.out)).mono ?_
    rintro r w14 ⟨e14, rfl, he14, b14⟩
    have z14 := b14.size
    have V14 := bstep V13 b14
    have xs__14 := OwnL.below xs__13 b14 (Nat.le_refl _)
    have W__14 := OwnL.below W__13 b14 (Nat.le_refl _)
    have x__14 := OwnL.below x__13 b14 (Nat.le_refl _)
    have G__14 := OwnL.below G__13 b14 (Nat.le_refl _)
    have z__14 := OwnL.below z__13 b14 (Nat.le_refl _)
    have y__14 := OwnL.below y__13 b14 (Nat.le_refl _)
    have H__14 := OwnL.below H__13 b14 (Nat.le_refl _)
    obtain rfl := he14.out.2 (by have := HP13.out.symm.trans HP2.out; injection this)
    clear he14
    have ht14 : t13 = t4 := by have := HP13.out.symm.trans HP2.out; injection this
    subst ht14
    go_wp2_with fail
    refine (quiet_below (heldBoolS_any A4 n4 c4 zs10 1 w14 (OwnL.rd G__14) HM10.out (by have := HB4.out; omega) (by omega) (by omega))).mono ?_
    rintro r w15 ⟨rfl, b15⟩
    have z15 := b15.size
    have V15 := bstep V14 b15
    have xs__15 := OwnL.below xs__14 b15 (Nat.le_refl _)
    have W__15 := OwnL.below W__14 b15 (Nat.le_refl _)
    have x__15 := OwnL.below x__14 b15 (Nat.le_refl _)
    have G__15 := OwnL.below G__14 b15 (Nat.le_refl _)
    have z__15 := OwnL.below z__14 b15 (Nat.le_refl _)
    have y__15 := OwnL.below y__14 b15 (Nat.le_refl _)
    have H__15 := OwnL.below H__14 b15 (Nat.le_refl _)
    go_wp2
    go_ret
    exact ⟨rfl, bstep B0 V15⟩
  · go_enter Try.func9, Try.ntmps9
    go_wp2
    go_ret
    first | exact ⟨rfl, B0⟩ | exact ⟨rfl, Below.refl _ _⟩ | (rw [← HW0.out]; exact ⟨rfl, B0⟩)
set_option maxRecDepth 100000 in
theorem lifted (os : Os) (started : os.Started) (H : Type) (enc : TypeId × Value → H) :
    ReturnsInHanded {} Try.checked os 9 .any (Rows.fnExactLoopSetSpec.pre6 enc Try.prog Try.f9 Rows.fnExactLoopSetRow.domain false) (Rows.fnExactLoopSetSpec.post enc Try.prog Try.f9 false true false false) := by
  refine returnsInHanded_of_change (C := Try.checked) own started (by kernel_rfl) Try.func9
    (ChangeSpec.witness6 (enc := enc) (C := Try.checked) false ⟨#[], #[.slice none 0 0], []⟩ 8 (by kernel_rfl) (by kernel_rfl) (by kernel_rfl) (by kernel_rfl)) ?_
  intro W base args ds gs before hval0 hW hcnd _
  have hval : ∀ (j : Nat) t v, Try.f9.params[j]? = some t → args[j]? = some v → Value.okWide Try.prog W .any base t v := hval0
  have hW' := hW
  obtain ⟨p, q, hA0, hV, rfl, hfz, hnd⟩ := hW
  have hA : DataW.TrodAll enc Try.prog W 0 (fun _ => true) true Try.f9.params.toList args.toList ds p := hA0
  rw [Try.params9] at hA hval
  obtain ⟨v0, vs0, d0, ds0, p0, q0, hargs, rfl, rfl, k0, r0⟩ := trodAll_cons hA
  obtain ⟨rfl, rfl, rfl⟩ := trodAll_nil r0
  obtain rfl : args = #[v0] := by cases args; simp_all
  obtain ⟨rfl, rfl⟩ := trodVars_none hV
  have lt0 : ∀ x ∈ p0, x.block < W.heap.size := by obtain ⟨m, hm⟩ := k0; exact DataW.trod_lt m _ _ _ hm
  obtain ⟨a0, n0, c0, rfl⟩ := okWide_slice Try.underlying25 (hval 0 25 v0 rfl rfl)
  obtain ⟨z0, f0⟩ := open_ints (W := W) k0
  clear hA0 hval0
  refine (walk a0 n0 c0 z0 W f0).mono fun e W' ⟨he, bel⟩ => ?_
  subst he
  exact ⟨_, rfl, _, _, _, [], _, [], hW', trodAll_mk1 (shut_bool Try.underlying4 _), (trodAll_cons_mk (Below.trod laidOut (by kernel_rfl) (of_decide_eq_true (by kernel_rfl)) k0 bel lt0) trodAll_mk0), rfl, bel.frame _, fun h => by cases h⟩
theorem closed : joinedFacts Try.pinned.checked.prog 9 Try.f9 Rows.fnExactLoopSetSpec Rows.fnExactLoopSetRow = true := by
  unfold joinedFacts
  repeat' (with_reducible refine Bool.and_eq_true_iff.2 ⟨?_, ?_⟩)
  · kernel_rfl
  · exact laidOut
  · kernel_rfl
  · kernel_rfl
  · kernel_rfl
  · kernel_rfl
  · kernel_rfl
  · kernel_rfl
  · kernel_rfl
  · kernel_rfl
  · kernel_rfl
  · kernel_rfl
  · kernel_rfl
  · kernel_rfl
  · kernel_rfl
  · kernel_rfl
  · kernel_rfl
  · kernel_rfl
  · kernel_rfl
  · kernel_rfl
  · kernel_rfl
  · kernel_rfl
  · kernel_rfl
  · kernel_rfl
  · kernel_rfl
  · exact heavy.1
  · exact heavy.2.1
  · exact heavy.2.2
  · kernel_rfl
  · kernel_rfl
  · kernel_rfl
  · kernel_rfl
theorem over : Rows.fnExactLoopSetRow.holds Try.pinned (OpenSpec.ofChange Rows.fnExactLoopSetSpec) :=
  OpenClaim.holds_of_wide 9 Try.f9 rfl rfl rfl rfl rfl rfl rfl ⟨rfl, rfl, rfl, rfl, rfl⟩ rfl rfl rfl rfl rfl (by kernel_rfl) Try.func9 closed
    (of_decide_eq_true (by kernel_rfl)) (by unfold Func.isWrapper; first | (rw [if_pos (by decide +kernel)]; kernel_rfl) | (rw [if_neg (by decide +kernel)]; exact ⟨rfl, rfl⟩))
    (fun os started H enc _ => lifted os started H enc)
theorem proved : Rows.FnExactLoopSetSaid := over
#print axioms proved
end Go.Proofs.Ytiahpaakkijejaa.exactLoopSet
