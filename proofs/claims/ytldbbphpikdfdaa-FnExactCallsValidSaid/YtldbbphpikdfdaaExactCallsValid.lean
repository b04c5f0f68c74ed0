/- FnExactCallsValid returns true for all arguments: the program's CallsValid and the reference's answer the same. No condition. -/
import Derived.Test.YtldbbphpikdfdaaFrame
import Derived.Test.Ytldbbphpikdfdaa4ws
import Derived.Test.Ytldbbphpikdfdaa4e
namespace Go.Proofs.Ytldbbphpikdfdaa.exactCallsValid
open Go.ChangeShapes Go.WideShapes Go.ChangeAt Go.RowKit
set_option linter.unusedSimpArgs false
set_option linter.unusedVariables false
set_option maxRecDepth 100000 in
set_option maxHeartbeats 2000000 in
theorem walk (o e m : Int) (A : Option Addr) (n c : Nat) (xs : List Cl)  (w : World) (f0 : (Lit.int .i64 o).wf = true ∧ (Lit.int .i64 e).wf = true ∧ (Lit.int .i64 m).wf = true)
    (f : RdC w A n xs ∧ n ≤ c ∧ c ≤ maxLen ∧ ∀ z ∈ xs, (Lit.int .i64 z.i).wf = true ∧ (Lit.int .i64 z.o).wf = true ∧ (Lit.int .i64 z.v).wf = true)  :
    Calls Try.prog 7 #[.agg #[.int .i64 o, .int .i64 e, .int .i64 m], .slice A n c] w fun x w' => x = .returned (.bool true) ∧ Below w.heap.size w w' := by
  clear f0
  obtain ⟨hx, hc1, hc2, -⟩ := f
  have B0 := below_box w (.cells #[.int .i64 o, .int .i64 e, .int .i64 m] 23)
  have K0 : ∀ w' : World, Below (w.alloc (.cells #[.int .i64 o, .int .i64 e, .int .i64 m] 23)).heap.size (w.alloc (.cells #[.int .i64 o, .int .i64 e, .int .i64 m] 23)) w' → w'.cell? ⟨w.heap.size, 0, none⟩ = some (.int .i64 o) ∧ w'.cell? ⟨w.heap.size, 1, none⟩ = some (.int .i64 e) ∧ w'.cell? ⟨w.heap.size, 2, none⟩ = some (.int .i64 m) := fun w' b => ⟨(b.cell (p := ⟨w.heap.size, 0, none⟩) (by simp)).trans (by simp), (b.cell (p := ⟨w.heap.size, 1, none⟩) (by simp)).trans (by simp), (b.cell (p := ⟨w.heap.size, 2, none⟩) (by simp)).trans (by simp)⟩
  have HK := Lib.hid K0; clear K0
  obtain ⟨W0, HW0⟩ : ∃ W0, Hid (W0 = w.alloc (.cells #[.int .i64 o, .int .i64 e, .int .i64 m] 23)) := ⟨_, rfl⟩
  rw [← HW0.out] at B0 HK
  have hx0 := hx.below B0 (Nat.le_refl _)
  go_enter Try.func7, Try.ntmps7
  go_wp2_with fail
  rw [← HW0.out]
  refine (szCallS_any A n c 1048576 _ (by omega) (by omega) (by omega)).mono ?_
  rintro r w1 ⟨rfl, m1, rfl⟩
  by_cases hn : n ≤ 1048576
  · rw [if_pos (by omega)]
    have V1 := below_drewN (Below.refl W0.heap.size W0) m1
    obtain ⟨c0, c1, c2⟩ := HK.out _ V1
    go_wp2_with fail
    refine (toShape_any o e m _).mono ?_
    rintro r w2 ⟨rfl, b2⟩
    have V2 := bstep V1 b2
    clear c0 c1 c2
    go_wp2_with fail
    refine (toCallS_any A n c xs _ (hx0.below V2 (Nat.le_refl _)) hn).mono ?_
    rintro r w3 ⟨A3, c3, rfl, h3, b3⟩
    have V3 := bstep V2 b3
    go_wp2_with fail
    refine (spec_CallsValid o e m A3 n c3 xs  w3 h3.rd (OwnM.cap h3).1 hn).mono ?_
    rintro r w4 ⟨v4, rfl, hv4, b4⟩
    have V4 := bstep V3 b4
    go_wp2_with fail
    refine (toCallS_any A n c xs _ (hx0.below V4 (Nat.le_refl _)) hn).mono ?_
    rintro r w5 ⟨A5, c5, rfl, h5, b5⟩
    have V5 := bstep V4 b5
    obtain ⟨c0, c1, c2⟩ := HK.out _ V5
    go_wp2_with fail
    refine (toShape_any o e m _).mono ?_
    rintro r w6 ⟨rfl, b6⟩
    have V6 := bstep V5 b6
    clear c0 c1 c2
    go_wp2_with fail
    refine (impl_CallsValid o e m A5 n c5 xs  w6 (RdM.below (OwnC.rd h5) b6 (Nat.le_refl _)) (OwnM.cap h5).1 hn).mono ?_
    rintro r w7 ⟨v7, rfl, hv7, b7⟩
    have V7 := bstep V6 b7
    have hvv : v7 = v4 := by
      rw [Bool.eq_iff_iff, hv7.out, hv4.out]
    subst hvv
    skip
    go_wp2_with fail
    refine (toCallS_any A n c xs _ (hx0.below V7 (Nat.le_refl _)) hn).mono ?_
    rintro r w8 ⟨A8, c8, rfl, h8, b8⟩
    have V8 := bstep V7 b8
    have hxx := ((RdM.below (OwnC.rd h5) b6 (Nat.le_refl _)).below b7 (Nat.le_refl _)).below b8 (Nat.le_refl _)
    go_wp2_with fail
    refine (eqCallS_any A5 A8 n n c5 c8 xs xs w8 hxx (OwnC.rd h8) hn hn).mono ?_
    rintro r w9 ⟨v9, rfl, hv9, b9⟩
    have V9 := bstep V8 b9
    obtain rfl := hv9.out.2 rfl
    clear hv9
    go_wp2
    go_ret
    exact ⟨rfl, bstep B0 V9⟩
  · rw [if_neg (by omega)]
    go_wp2
    go_ret
    exact ⟨rfl, bstep B0 (below_drewN (Below.refl _ _) _)⟩
set_option maxRecDepth 100000 in
theorem lifted (os : Os) (started : os.Started) (H : Type) (enc : TypeId × Value → H) :
    ReturnsInHanded {} Try.checked os 7 .any (Rows.fnExactCallsValidSpec.pre6 enc Try.prog Try.f7 Rows.fnExactCallsValidRow.domain false) (Rows.fnExactCallsValidSpec.post enc Try.prog Try.f7 false true false false) := by
  refine returnsInHanded_of_change (C := Try.checked) own started (by kernel_rfl) Try.func7
    (ChangeSpec.witness6 (enc := enc) (C := Try.checked) false ⟨#[], #[.agg #[.int .i64 0, .int .i64 0, .int .i64 0], .slice none 0 0], []⟩ 8 (by kernel_rfl) (by kernel_rfl) (by kernel_rfl) (by kernel_rfl)) ?_
  intro W base args ds gs before hval0 hW hcnd _
  have hval : ∀ (j : Nat) t v, Try.f7.params[j]? = some t → args[j]? = some v → Value.okWide Try.prog W .any base t v := hval0
  have hW' := hW
  obtain ⟨p, q, hA0, hV, rfl, hfz, hnd⟩ := hW
  have hA : DataW.TrodAll enc Try.prog W 0 (fun _ => true) true Try.f7.params.toList args.toList ds p := hA0
  rw [Try.params7] at hA hval
  obtain ⟨v0, vs0, d0, ds0, p0, q0, hargs, rfl, rfl, k0, r0⟩ := trodAll_cons hA
  obtain ⟨v1, vs1, d1, ds1, p1, q1, rfl, rfl, rfl, k1, r1⟩ := trodAll_cons r0
  obtain ⟨rfl, rfl, rfl⟩ := trodAll_nil r1
  obtain rfl : args = #[v0, v1] := by cases args; simp_all
  obtain ⟨rfl, rfl⟩ := trodVars_none hV
  have lt0 : ∀ x ∈ p0, x.block < W.heap.size := by obtain ⟨m, hm⟩ := k0; exact DataW.trod_lt m _ _ _ hm
  obtain ⟨x0, y0, u0, rfl, f0⟩ := open_shape (hval 0 23 v0 rfl rfl) k0
  have lt1 : ∀ x ∈ p1, x.block < W.heap.size := by obtain ⟨m, hm⟩ := k1; exact DataW.trod_lt m _ _ _ hm
  obtain ⟨a1, n1, c1, rfl⟩ := okWide_slice Try.underlying28 (hval 1 28 v1 rfl rfl)
  obtain ⟨z1, f1⟩ := open_calls (W := W) k1
  clear hA0 hval0
  refine (walk x0 y0 u0 a1 n1 c1 z1 W f0 f1).mono fun e W' ⟨he, bel⟩ => ?_
  subst he
  exact ⟨_, rfl, _, _, _, [], _, [], hW', trodAll_mk1 (shut_bool Try.underlying4 _), (trodAll_cons_mk (Below.trod laidOut (by kernel_rfl) (of_decide_eq_true (by kernel_rfl)) k0 bel lt0) (trodAll_cons_mk (Below.trod laidOut (by kernel_rfl) (of_decide_eq_true (by kernel_rfl)) k1 bel lt1) trodAll_mk0)), rfl, bel.frame _, fun h => by cases h⟩
theorem closed : joinedFacts Try.pinned.checked.prog 7 Try.f7 Rows.fnExactCallsValidSpec Rows.fnExactCallsValidRow = true := by
  unfold joinedFacts
  repeat' (with_reducible refine Bool.and_eq_true_iff.2 ⟨?_, ?_⟩)
  · kernel_rfl
  · exact laidOut
  · kernel_rfl
  · kernel_rfl
  · kernel_rfl
  · kernel_rfl
  · kernel_rfl
  · kernel_rfl
  · kernel_rfl
  · kernel_rfl
  · kernel_rfl
  · kernel_rfl
  · kernel_rfl
  · kernel_rfl
  · kernel_rfl
  · kernel_rfl
  · kernel_rfl
  · kernel_rfl
  · kernel_rfl
  · kernel_rfl
  · kernel_rfl
  · kernel_rfl
  · kernel_rfl
  · kernel_rfl
  · kernel_rfl
  · exact heavy.1
  · exact heavy.2.1
  · exact heavy.2.2
  · kernel_rfl
  · kernel_rfl
  · kernel_rfl
  · kernel_rfl
theorem over : Rows.fnExactCallsValidRow.holds Try.pinned (OpenSpec.ofChange Rows.fnExactCallsValidSpec) :=
  OpenClaim.holds_of_wide 7 Try.f7 rfl rfl rfl rfl rfl rfl rfl ⟨rfl, rfl, rfl, rfl, rfl⟩ rfl rfl rfl rfl rfl (by kernel_rfl) Try.func7 closed
    (of_decide_eq_true (by kernel_rfl)) (by unfold Func.isWrapper; first | (rw [if_pos (by decide +kernel)]; kernel_rfl) | (rw [if_neg (by decide +kernel)]; exact ⟨rfl, rfl⟩))
    (fun os started H enc _ => lifted os started H enc)
theorem proved : Rows.FnExactCallsValidSaid := over
#print axioms proved
end Go.Proofs.Ytldbbphpikdfdaa.exactCallsValid
