/- FnExactStepClashes returns true for all arguments: the program's StepClashes and the reference's answer the same. No condition. -/
import Derived.Test.YtiahpaakkijejaaFrame
import Derived.Test.Ytiahpaakkijejaa3e
import Derived.Test.YtiahpaakkijejaaMark
namespace Go.Proofs.Ytiahpaakkijejaa.exactStepClashes
open Go.ChangeShapes Go.WideShapes Go.ChangeAt Go.RowKit
set_option linter.unusedSimpArgs false
set_option linter.unusedVariables false
theorem quiet_below {P : Program} {f : FuncId} {args : Array Value} {w : World} {v : Ending} (h : Calls P f args w fun e w' => e = v ∧ ∃ m, w' = w.drewN m) : Calls P f args w fun e w' => e = v ∧ Below w.heap.size w w' :=
  h.mono fun _ _ ⟨he, m, hm⟩ => ⟨he, by rw [hm]; exact below_drewN (Below.refl _ _) m⟩
theorem retB_M {P : Program} {f : FuncId} {args : Array Value} {w : World} {p : Prop} (h : Calls P f args w (RetB p w)) : Calls P f args w (RetM p w) :=
  h.mono fun _ _ ⟨b, he, hb, m, hm⟩ => ⟨b, he, hb, by rw [hm]; exact below_drewN (Below.refl _ _) m⟩
set_option maxRecDepth 100000 in
set_option maxHeartbeats 4000000 in
theorem walk (A : Option Addr) (n c : Nat) (xs : List Int) (w : World) (f : RdL iv w A n xs ∧ n ≤ c ∧ c ≤ maxLen ∧ ∀ z ∈ xs, (Lit.int .i64 z).wf = true) :
    Calls Try.prog 6 #[.slice A n c] w fun x w' => x = .returned (.bool true) ∧ Below w.heap.size w w' := by
  obtain ⟨hx, hc1, hc2, -⟩ := f
  have B0 := Below.refl w.heap.size w
  obtain ⟨W0, HW0⟩ : ∃ W0, Hid (W0 = w) := ⟨_, rfl⟩
  have B0 : Below w.heap.size w W0 := by rw [HW0.out]; exact Below.refl _ _
  have hx0 := hx.below B0 (Nat.le_refl _)
  have hz0 := B0.size
  have hn_len : Hid (xs.length = n) := hx.1
  by_cases hn : n ≤ 1048576
  · go_enter Try.func6, Try.ntmps6
    have V0 := Below.refl W0.heap.size W0
    obtain ⟨VV, HVV⟩ : ∃ VV, Hid (clashL xs = VV) := ⟨_, rfl⟩
    go_wp2_with fail
    rw [← HW0.out]
    refine (toIntS_any A n c xs _ (hx0.below V0 (Nat.le_refl _)) hn).mono ?_
    rintro r w1 ⟨A1, c1, rfl, h1, b1⟩
    have z1 := b1.size
    have V1 := bstep V0 b1
    have xs__1 := h1
    have xs__b := h1
    go_wp2_with fail
    refine (spec_StepClashes A1 n c1 xs w1 (OwnL.rd xs__1) (OwnL.cap xs__1).1 hn).mono ?_
    rintro r w2 ⟨rfl, b2⟩
    have z2 := b2.size
    have V2 := bstep V1 b2
    have xs__2 := OwnL.below xs__1 b2 (Nat.le_refl _)
    rw [HVV.out]
    go_wp2_with fail
    refine (toIntS_any A n c xs _ (hx0.below V2 (Nat.le_refl _)) hn).mono ?_
    rintro r w3 ⟨A3, c3, rfl, h3, b3⟩
    have z3 := b3.size
    have V3 := bstep V2 b3
    have xs__3 := OwnL.below xs__2 b3 (Nat.le_refl _)
    have x__3 := h3
    have x__b := h3
    go_wp2_with fail
    refine (impl_StepClashes A3 n c3 xs w3 (OwnL.rd x__3) (OwnL.cap x__3).1 hn).mono ?_
    rintro r w4 ⟨rfl, b4⟩
    have z4 := b4.size
    have V4 := bstep V3 b4
    have xs__4 := OwnL.below xs__3 b4 (Nat.le_refl _)
    have x__4 := OwnL.below x__3 b4 (Nat.le_refl _)
    rw [HVV.out]
    have hvv : (VV != VV) = false := by simp
    go_wp2_with fail
    refine (toIntS_any A n c xs _ (hx0.below V4 (Nat.le_refl _)) hn).mono ?_
    rintro r w5 ⟨A5, c5, rfl, h5, b5⟩
    have z5 := b5.size
    have V5 := bstep V4 b5
    have xs__5 := OwnL.below xs__4 b5 (Nat.le_refl _)
    have x__5 := OwnL.below x__4 b5 (Nat.le_refl _)
    have z__5 := h5
    have z__b := h5
    go_wp2_with fail
    refine (retB_M (eqIntS_any A3 A5 n n c3 c5 xs xs w5 (OwnL.rd x__5) (OwnL.rd z__5) hn hn)).mono ?_
    rintro r w6 ⟨e6, rfl, he6, b6⟩
    have z6 := b6.size
    have V6 := bstep V5 b6
    have xs__6 := OwnL.below xs__5 b6 (Nat.le_refl _)
    have x__6 := OwnL.below x__5 b6 (Nat.le_refl _)
    have z__6 := OwnL.below z__5 b6 (Nat.le_refl _)
    obtain rfl := he6.out.2 rfl
    clear he6
    go_wp2
    go_ret
    exact ⟨rfl, bstep B0 V6⟩
  · go_enter Try.func6, Try.ntmps6
    go_wp2
    go_ret
    first | exact ⟨rfl, B0⟩ | exact ⟨rfl, Below.refl _ _⟩ | (rw [← HW0.out]; exact ⟨rfl, B0⟩)
set_option maxRecDepth 100000 in
theorem lifted (os : Os) (started : os.Started) (H : Type) (enc : TypeId × Value → H) :
    ReturnsInHanded {} Try.checked os 6 .any (Rows.fnExactStepClashesSpec.pre6 enc Try.prog Try.f6 Rows.fnExactStepClashesRow.domain false) (Rows.fnExactStepClashesSpec.post enc Try.prog Try.f6 false true false false) := by
  refine returnsInHanded_of_change (C := Try.checked) own started (by kernel_rfl) Try.func6
    (ChangeSpec.witness6 (enc := enc) (C := Try.checked) false ⟨#[], #[.slice none 0 0], []⟩ 8 (by kernel_rfl) (by kernel_rfl) (by kernel_rfl) (by kernel_rfl)) ?_
  intro W base args ds gs before hval0 hW hcnd _
  have hval : ∀ (j : Nat) t v, Try.f6.params[j]? = some t → args[j]? = some v → Value.okWide Try.prog W .any base t v := hval0
  have hW' := hW
  obtain ⟨p, q, hA0, hV, rfl, hfz, hnd⟩ := hW
  have hA : DataW.TrodAll enc Try.prog W 0 (fun _ => true) true Try.f6.params.toList args.toList ds p := hA0
  rw [Try.params6] at hA hval
  obtain ⟨v0, vs0, d0, ds0, p0, q0, hargs, rfl, rfl, k0, r0⟩ := trodAll_cons hA
  obtain ⟨rfl, rfl, rfl⟩ := trodAll_nil r0
  obtain rfl : args = #[v0] := by cases args; simp_all
  obtain ⟨rfl, rfl⟩ := trodVars_none hV
  have lt0 : ∀ x ∈ p0, x.block < W.heap.size := by obtain ⟨m, hm⟩ := k0; exact DataW.trod_lt m _ _ _ hm
  obtain ⟨a0, n0, c0, rfl⟩ := okWide_slice Try.underlying25 (hval 0 25 v0 rfl rfl)
  obtain ⟨z0, f0⟩ := open_ints (W := W) k0
  clear hA0 hval0
  refine (walk a0 n0 c0 z0 W f0).mono fun e W' ⟨he, bel⟩ => ?_
  subst he
  exact ⟨_, rfl, _, _, _, [], _, [], hW', trodAll_mk1 (shut_bool Try.underlying4 _), (trodAll_cons_mk (Below.trod laidOut (by kernel_rfl) (of_decide_eq_true (by kernel_rfl)) k0 bel lt0) trodAll_mk0), rfl, bel.frame _, fun h => by cases h⟩
theorem closed : joinedFacts Try.pinned.checked.prog 6 Try.f6 Rows.fnExactStepClashesSpec Rows.fnExactStepClashesRow = true := by
  unfold joinedFacts
  repeat' (with_reducible refine Bool.and_eq_true_iff.2 ⟨?_, ?_⟩)
  · kernel_rfl
  · exact laidOut
  · kernel_rfl
  · kernel_rfl
  · kernel_rfl
  · kernel_rfl
  · kernel_rfl
  · kernel_rfl
  · kernel_rfl
  · kernel_rfl
  · kernel_rfl
  · kernel_rfl
  · kernel_rfl
  · kernel_rfl
  · kernel_rfl
  · kernel_rfl
  · kernel_rfl
  · kernel_rfl
  · kernel_rfl
  · kernel_rfl
  · kernel_rfl
  · kernel_rfl
  · kernel_rfl
  · kernel_rfl
  · kernel_rfl
  · exact heavy.1
  · exact heavy.2.1
  · exact heavy.2.2
  · kernel_rfl
  · kernel_rfl
  · kernel_rfl
  · kernel_rfl
theorem over : Rows.fnExactStepClashesRow.holds Try.pinned (OpenSpec.ofChange Rows.fnExactStepClashesSpec) :=
  OpenClaim.holds_of_wide 6 Try.f6 rfl rfl rfl rfl rfl rfl rfl ⟨rfl, rfl, rfl, rfl, rfl⟩ rfl rfl rfl rfl rfl (by kernel_rfl) Try.func6 closed
    (of_decide_eq_true (by kernel_rfl)) (by unfold Func.isWrapper; first | (rw [if_pos (by decide +kernel)]; kernel_rfl) | (rw [if_neg (by decide +kernel)]; exact ⟨rfl, rfl⟩))
    (fun os started H enc _ => lifted os started H enc)
theorem proved : Rows.FnExactStepClashesSaid := over
#print axioms proved
end Go.Proofs.Ytiahpaakkijejaa.exactStepClashes
