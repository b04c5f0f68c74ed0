/- FnExactDialCost returns true for all arguments: the program's DialCost and the reference's answer the same. No condition. -/
import Derived.Test.YtplalcciodbddaaFrame
import Derived.Test.Ytplalcciodbddaa6s
namespace Go.Proofs.Ytplalcciodbddaa.exactDialCost
open Go.ChangeShapes Go.WideShapes Go.ChangeAt Go.RowKit
set_option linter.unusedSimpArgs false
set_option linter.unusedVariables false
theorem walk (A : Option Addr) (n c : Nat) (xs : List Int) (A' : Option Addr) (n' c' : Nat) (ys : List Int) (w : World) (f : RdL iv w A n xs ∧ n ≤ c ∧ ∀ z ∈ xs, (Lit.int .i64 z).wf = true) (f' : RdL iv w A' n' ys ∧ n' ≤ c' ∧ ∀ z ∈ ys, (Lit.int .i64 z).wf = true) :
    Calls Try.prog 9 #[.slice A n c, .slice A' n' c'] w fun e w' => e = .returned (.bool true) ∧ Below w.heap.size w w' := by
  obtain ⟨hx, -, -⟩ := f
  obtain ⟨hy, -, -⟩ := f'
  by_cases hn : n ≤ 1048576
  · by_cases hn' : n' ≤ 1048576
    · go_enter Try.func9, Try.ntmps9
      go_wp2_with fail
      refine (toIntS_any A n c xs w hx hn).mono ?_
      rintro e w1 ⟨A1, c1, rfl, h1, B1⟩
      go_wp2_with fail
      refine (toIntS_any A' n' c' ys _ (hy.below B1 (Nat.le_refl _)) hn').mono ?_
      rintro e w2 ⟨A2, c2, rfl, h2, b2⟩
      have B2 := bstep B1 b2
      go_wp2_with fail
      refine (spec_DialCost A1 A2 n n' c1 c2 xs ys w2 (h1.rd.below b2 (Nat.le_refl _)) h2.rd hn hn').mono ?_
      rintro e w3 ⟨rfl, m3, rfl⟩
      have B3 := below_drewN B2 m3
      go_wp2_with fail
      refine (toIntS_any A n c xs _ (hx.below B3 (Nat.le_refl _)) hn).mono ?_
      rintro e w4 ⟨A4, c4, rfl, h4, b4⟩
      have B4 := bstep B3 b4
      go_wp2_with fail
      refine (toIntS_any A' n' c' ys _ (hy.below B4 (Nat.le_refl _)) hn').mono ?_
      rintro e w5 ⟨A5, c5, rfl, h5, b5⟩
      have B5 := bstep B4 b5
      have h4' := h4.rd.below b5 (Nat.le_refl _)
      go_wp2_with fail
      refine (impl_DialCost A4 A5 n n' c4 c5 xs ys w5 h4' h5.rd hn hn').mono ?_
      rintro e w6 ⟨rfl, m6, rfl⟩
      have B6 := below_drewN B5 m6
      go_wp2_with fail
      refine (toIntS_any A n c xs _ (hx.below B6 (Nat.le_refl _)) hn).mono ?_
      rintro e w7 ⟨A7, c7, rfl, h7, b7⟩
      have B7 := bstep B6 b7
      go_wp2_with fail
      refine (eqIntS_any A4 A7 n n c4 c7 xs xs w7 ((h4'.drewN m6).below b7 (Nat.le_refl _)) h7.rd hn hn).mono ?_
      rintro e w8 ⟨rfl, m8, rfl⟩
      rw [decide_eq_true rfl]
      have B8 := below_drewN B7 m8
      go_wp2_with fail
      refine (toIntS_any A' n' c' ys _ (hy.below B8 (Nat.le_refl _)) hn').mono ?_
      rintro e w9 ⟨A9, c9, rfl, h9, b9⟩
      have B9 := bstep B8 b9
      go_wp2_with fail
      refine (eqIntS_any A5 A9 n' n' c5 c9 ys ys w9 ((((h5.rd.drewN m6).below b7 (Nat.le_refl _)).drewN m8).below b9 (Nat.le_refl _)) h9.rd hn' hn').mono ?_
      rintro e w10 ⟨rfl, m10, rfl⟩
      rw [decide_eq_true rfl]
      go_wp2
      go_ret
      exact ⟨rfl, below_drewN B9 m10⟩
    · go_enter Try.func9, Try.ntmps9
      go_wp2
      go_ret
      exact ⟨rfl, Below.refl _ _⟩
  · go_enter Try.func9, Try.ntmps9
    go_wp2
    go_ret
    exact ⟨rfl, Below.refl _ _⟩
set_option maxRecDepth 100000 in
theorem lifted (os : Os) (started : os.Started) (H : Type) (enc : TypeId × Value → H) :
    ReturnsInHanded {} Try.checked os 9 .any (Rows.fnExactDialCostSpec.pre6 enc Try.prog Try.f9 Rows.fnExactDialCostRow.domain false) (Rows.fnExactDialCostSpec.post enc Try.prog Try.f9 false true false false) := by
  refine returnsInHanded_of_change (C := Try.checked) own started (by kernel_rfl) Try.func9
    (ChangeSpec.witness6 (enc := enc) (C := Try.checked) false ⟨#[], #[.slice none 0 0, .slice none 0 0], []⟩ 8 (by kernel_rfl) (by kernel_rfl) (by kernel_rfl) (by kernel_rfl)) ?_
  intro W base args ds gs before hval0 hW hcnd _
  have hval : ∀ (j : Nat) t v, Try.f9.params[j]? = some t → args[j]? = some v → Value.okWide Try.prog W .any base t v := hval0
  have hW' := hW
  obtain ⟨p, q, hA0, hV, rfl, hfz, hnd⟩ := hW
  have hA : DataW.TrodAll enc Try.prog W 0 (fun _ => true) true Try.f9.params.toList args.toList ds p := hA0
  rw [Try.params9] at hA hval
  obtain ⟨v0, vs0, d0, ds0, p0, q0, hargs, rfl, rfl, k0, r0⟩ := trodAll_cons hA
  obtain ⟨v1, vs1, d1, ds1, p1, q1, rfl, rfl, rfl, k1, r1⟩ := trodAll_cons r0
  obtain ⟨rfl, rfl, rfl⟩ := trodAll_nil r1
  obtain rfl : args = #[v0, v1] := by cases args; simp_all
  obtain ⟨rfl, rfl⟩ := trodVars_none hV
  have lt0 : ∀ x ∈ p0, x.block < W.heap.size := by obtain ⟨m, hm⟩ := k0; exact DataW.trod_lt m _ _ _ hm
  obtain ⟨a0, n0, c0, rfl⟩ := okWide_slice Try.underlying23 (hval 0 23 v0 rfl rfl)
  obtain ⟨z0, f0⟩ := open_ints (W := W) k0
  have lt1 : ∀ x ∈ p1, x.block < W.heap.size := by obtain ⟨m, hm⟩ := k1; exact DataW.trod_lt m _ _ _ hm
  obtain ⟨a1, n1, c1, rfl⟩ := okWide_slice Try.underlying23 (hval 1 23 v1 rfl rfl)
  obtain ⟨z1, f1⟩ := open_ints (W := W) k1
  clear hA0 hval0
  refine (walk a0 n0 c0 z0 a1 n1 c1 z1 W f0 f1).mono fun e W' ⟨he, bel⟩ => ?_
  subst he
  exact ⟨_, rfl, _, _, _, [], _, [], hW', trodAll_mk1 (shut_bool Try.underlying4 _), (trodAll_cons_mk (Below.trod laidOut (by kernel_rfl) (of_decide_eq_true (by kernel_rfl)) k0 bel lt0) (trodAll_cons_mk (Below.trod laidOut (by kernel_rfl) (of_decide_eq_true (by kernel_rfl)) k1 bel lt1) trodAll_mk0)), rfl, bel.frame _, fun h => by cases h⟩
theorem over : Rows.fnExactDialCostRow.holds Try.pinned (OpenSpec.ofChange Rows.fnExactDialCostSpec) :=
  OpenClaim.holds_of_wide 9 Try.f9 rfl rfl rfl rfl rfl rfl rfl ⟨rfl, rfl, rfl, rfl, rfl⟩ rfl rfl rfl rfl rfl (by kernel_rfl) Try.func9 (by kernel_rfl)
    (of_decide_eq_true (by kernel_rfl)) (by unfold Func.isWrapper; first | (rw [if_pos (by decide +kernel)]; kernel_rfl) | (rw [if_neg (by decide +kernel)]; exact ⟨rfl, rfl⟩))
    (fun os started H enc _ => lifted os started H enc)
theorem proved : Rows.FnExactDialCostSaid := over
#print axioms proved
end Go.Proofs.Ytplalcciodbddaa.exactDialCost
