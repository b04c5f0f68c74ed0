/- FnExactCallsMoved returns true for all lists of calls: the program's CallsMoved and the reference's answer the same. No condition. -/
import Derived.Test.YtldbbphpikdfdaaFrame
import Derived.Test.Ytldbbphpikdfdaa4e
namespace Go.Proofs.Ytldbbphpikdfdaa.exactCallsMoved
open Go.ChangeShapes Go.WideShapes Go.ChangeAt Go.RowKit
set_option linter.unusedSimpArgs false
set_option linter.unusedVariables false
theorem walk (A : Option Addr) (n c : Nat) (xs : List Cl) (A' : Option Addr) (n' c' : Nat) (ys : List Cl) (w : World)
    (f : RdC w A n xs ∧ n ≤ c ∧ c ≤ maxLen ∧ ∀ z ∈ xs, (Lit.int .i64 z.i).wf = true ∧ (Lit.int .i64 z.o).wf = true ∧ (Lit.int .i64 z.v).wf = true)
    (f' : RdC w A' n' ys ∧ n' ≤ c' ∧ c' ≤ maxLen ∧ ∀ z ∈ ys, (Lit.int .i64 z.i).wf = true ∧ (Lit.int .i64 z.o).wf = true ∧ (Lit.int .i64 z.v).wf = true) :
    Calls Try.prog 6 #[.slice A n c, .slice A' n' c'] w fun e w' => e = .returned (.bool true) ∧ Below w.heap.size w w' := by
  obtain ⟨hx, hc1, hc2, -⟩ := f
  obtain ⟨hy, hc3, hc4, -⟩ := f'
  go_enter Try.func6, Try.ntmps6
  go_wp2_with fail
  refine (szCallS_any A n c 1048576 w (by omega) (by omega) (by omega)).mono ?_
  rintro e w0 ⟨rfl, m0, rfl⟩
  have B0 := below_drewN (Below.refl w.heap.size w) m0
  by_cases hn : n ≤ 1048576
  · rw [if_pos (by omega)]
    go_wp2_with fail
    refine (szCallS_any A' n' c' (1048576 - (n : Int)) _ (by omega) (by omega) (by omega)).mono ?_
    rintro e w00 ⟨rfl, m00, rfl⟩
    have B00 := below_drewN (Below.refl w.heap.size w) (m0 + m00)
    by_cases hn' : (n' : Int) ≤ 1048576 - (n : Int)
    · rw [if_pos hn']
      have hn'' : n' ≤ 1048576 := by omega
      go_wp2_with fail
      refine (toCallS_any A n c xs _ (hx.drewN _) hn).mono ?_
      rintro e w1 ⟨A1, c1, rfl, h1, b1⟩
      have B1 := bstep B00 b1
      go_wp2_with fail
      refine (toCallS_any A' n' c' ys _ (hy.below B1 (Nat.le_refl _)) hn'').mono ?_
      rintro e w2 ⟨A2, c2, rfl, h2, b2⟩
      have B2 := bstep B1 b2
      go_wp2_with fail
      refine (spec_CallsMoved A1 A2 n n' c1 c2 xs ys w2 ((OwnC.rd h1).below b2 (Nat.le_refl _)) (OwnC.rd h2) hn hn'').mono ?_
      rintro e w3 ⟨rfl, m3, rfl⟩
      have B3 := below_drewN B2 m3
      go_wp2_with fail
      refine (toCallS_any A n c xs _ (hx.below B3 (Nat.le_refl _)) hn).mono ?_
      rintro e w4 ⟨A4, c4, rfl, h4, b4⟩
      have B4 := bstep B3 b4
      go_wp2_with fail
      refine (toCallS_any A' n' c' ys _ (hy.below B4 (Nat.le_refl _)) hn'').mono ?_
      rintro e w5 ⟨A5, c5, rfl, h5, b5⟩
      have B5 := bstep B4 b5
      have h4' := (OwnC.rd h4).below b5 (Nat.le_refl _)
      go_wp2_with fail
      refine (impl_CallsMoved A4 A5 n n' c4 c5 xs ys w5 h4' (OwnC.rd h5) hn hn'').mono ?_
      rintro e w6 ⟨rfl, m6, rfl⟩
      have B6 := below_drewN B5 m6
      go_wp2_with fail
      refine (toCallS_any A n c xs _ (hx.below B6 (Nat.le_refl _)) hn).mono ?_
      rintro e w7 ⟨A7, c7, rfl, h7, b7⟩
      have B7 := bstep B6 b7
      go_wp2_with fail
      refine (eqCallS_any A4 A7 n n c4 c7 xs xs w7 ((h4'.drewN m6).below b7 (Nat.le_refl _)) (OwnC.rd h7) hn hn).mono ?_
      rintro e w8 ⟨v8, rfl, hv8, b8⟩
      obtain rfl := hv8.out.2 rfl
      clear hv8
      have B8 := bstep B7 b8
      go_wp2_with fail
      refine (toCallS_any A' n' c' ys _ (hy.below B8 (Nat.le_refl _)) hn'').mono ?_
      rintro e w9 ⟨A9, c9, rfl, h9, b9⟩
      have B9 := bstep B8 b9
      go_wp2_with fail
      refine (eqCallS_any A5 A9 n' n' c5 c9 ys ys w9 (((((OwnC.rd h5).drewN m6).below b7 (Nat.le_refl _)).below b8 (Nat.le_refl _)).below b9 (Nat.le_refl _)) (OwnC.rd h9) hn'' hn'').mono ?_
      rintro e w10 ⟨v10, rfl, hv10, b10⟩
      obtain rfl := hv10.out.2 rfl
      clear hv10
      go_wp2
      go_ret
      exact ⟨rfl, bstep B9 b10⟩
    · rw [if_neg hn']
      go_wp2
      go_ret
      exact ⟨rfl, below_drewN (Below.refl _ _) _⟩
  · rw [if_neg (by omega)]
    go_wp2
    go_ret
    exact ⟨rfl, B0⟩
set_option maxRecDepth 100000 in
theorem lifted (os : Os) (started : os.Started) (H : Type) (enc : TypeId × Value → H) :
    ReturnsInHanded {} Try.checked os 6 .any (Rows.fnExactCallsMovedSpec.pre6 enc Try.prog Try.f6 Rows.fnExactCallsMovedRow.domain false) (Rows.fnExactCallsMovedSpec.post enc Try.prog Try.f6 false true false false) := by
  refine returnsInHanded_of_change (C := Try.checked) own started (by kernel_rfl) Try.func6
    (ChangeSpec.witness6 (enc := enc) (C := Try.checked) false ⟨#[], #[.slice none 0 0, .slice none 0 0], []⟩ 8 (by kernel_rfl) (by kernel_rfl) (by kernel_rfl) (by kernel_rfl)) ?_
  intro W base args ds gs before hval0 hW hcnd _
  have hval : ∀ (j : Nat) t v, Try.f6.params[j]? = some t → args[j]? = some v → Value.okWide Try.prog W .any base t v := hval0
  have hW' := hW
  obtain ⟨p, q, hA0, hV, rfl, hfz, hnd⟩ := hW
  have hA : DataW.TrodAll enc Try.prog W 0 (fun _ => true) true Try.f6.params.toList args.toList ds p := hA0
  rw [Try.params6] at hA hval
  obtain ⟨v0, vs0, d0, ds0, p0, q0, hargs, rfl, rfl, k0, r0⟩ := trodAll_cons hA
  obtain ⟨v1, vs1, d1, ds1, p1, q1, rfl, rfl, rfl, k1, r1⟩ := trodAll_cons r0
  obtain ⟨rfl, rfl, rfl⟩ := trodAll_nil r1
  obtain rfl : args = #[v0, v1] := by cases args; simp_all
  obtain ⟨rfl, rfl⟩ := trodVars_none hV
  have lt0 : ∀ x ∈ p0, x.block < W.heap.size := by obtain ⟨m, hm⟩ := k0; exact DataW.trod_lt m _ _ _ hm
  obtain ⟨a0, n0, c0, rfl⟩ := okWide_slice Try.underlying28 (hval 0 28 v0 rfl rfl)
  obtain ⟨z0, f0⟩ := open_calls (W := W) k0
  have lt1 : ∀ x ∈ p1, x.block < W.heap.size := by obtain ⟨m, hm⟩ := k1; exact DataW.trod_lt m _ _ _ hm
  obtain ⟨a1, n1, c1, rfl⟩ := okWide_slice Try.underlying28 (hval 1 28 v1 rfl rfl)
  obtain ⟨z1, f1⟩ := open_calls (W := W) k1
  clear hA0 hval0
  refine (walk a0 n0 c0 z0 a1 n1 c1 z1 W f0 f1).mono fun e W' ⟨he, bel⟩ => ?_
  subst he
  exact ⟨_, rfl, _, _, _, [], _, [], hW', trodAll_mk1 (shut_bool Try.underlying4 _), (trodAll_cons_mk (Below.trod laidOut (by kernel_rfl) (of_decide_eq_true (by kernel_rfl)) k0 bel lt0) (trodAll_cons_mk (Below.trod laidOut (by kernel_rfl) (of_decide_eq_true (by kernel_rfl)) k1 bel lt1) trodAll_mk0)), rfl, bel.frame _, fun h => by cases h⟩
theorem closed : joinedFacts Try.pinned.checked.prog 6 Try.f6 Rows.fnExactCallsMovedSpec Rows.fnExactCallsMovedRow = true := by
  unfold joinedFacts
  repeat' (with_reducible refine Bool.and_eq_true_iff.2 ⟨?_, ?_⟩)
  · kernel_rfl
  · exact laidOut
  · kernel_rfl
  · kernel_rfl
  · kernel_rfl
  · kernel_rfl
  · kernel_rfl
  · kernel_rfl
  · kernel_rfl
  · kernel_rfl
  · kernel_rfl
  · kernel_rfl
  · kernel_rfl
  · kernel_rfl
  · kernel_rfl
  · kernel_rfl
  · kernel_rfl
  · kernel_rfl
  · kernel_rfl
  · kernel_rfl
  · kernel_rfl
  · kernel_rfl
  · kernel_rfl
  · kernel_rfl
  · kernel_rfl
  · exact heavy.1
  · exact heavy.2.1
  · exact heavy.2.2
  · kernel_rfl
  · kernel_rfl
  · kernel_rfl
  · kernel_rfl
theorem over : Rows.fnExactCallsMovedRow.holds Try.pinned (OpenSpec.ofChange Rows.fnExactCallsMovedSpec) :=
  OpenClaim.holds_of_wide 6 Try.f6 rfl rfl rfl rfl rfl rfl rfl ⟨rfl, rfl, rfl, rfl, rfl⟩ rfl rfl rfl rfl rfl (by kernel_rfl) Try.func6 closed
    (of_decide_eq_true (by kernel_rfl)) (by unfold Func.isWrapper; first | (rw [if_pos (by decide +kernel)]; kernel_rfl) | (rw [if_neg (by decide +kernel)]; exact ⟨rfl, rfl⟩))
    (fun os started H enc _ => lifted os started H enc)
theorem proved : Rows.FnExactCallsMovedSaid := over
#print axioms proved
end Go.Proofs.Ytldbbphpikdfdaa.exactCallsMoved
