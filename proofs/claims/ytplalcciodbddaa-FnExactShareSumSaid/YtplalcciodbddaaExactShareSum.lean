/- FnExactShareSum returns true for every argument: the program's ShareSum and the reference's answer the same. No condition. -/
import Derived.Test.YtplalcciodbddaaFrame
import Derived.Test.Ytplalcciodbddaa6s
namespace Go.Proofs.Ytplalcciodbddaa.exactShareSum
open Go.ChangeShapes Go.WideShapes Go.ChangeAt Go.RowKit
set_option linter.unusedSimpArgs false
set_option linter.unusedVariables false
theorem walk (A : Option Addr) (n c : Nat) (xs : List Int) (w : World) (f : RdL iv w A n xs ∧ n ≤ c ∧ ∀ z ∈ xs, (Lit.int .i64 z).wf = true) :
    Calls Try.prog 7 #[.slice A n c] w fun e w' => e = .returned (.bool true) ∧ Below w.heap.size w w' := by
  obtain ⟨hx, -, -⟩ := f
  by_cases hn : n ≤ 1048576
  · go_enter Try.func7, Try.ntmps7
    go_wp2_with fail
    refine (toIntS_any A n c xs w hx hn).mono ?_
    rintro e w1 ⟨A1, c1, rfl, h1, b1⟩
    go_wp2_with fail
    refine (spec_ShareSum A1 n c1 xs w1 h1.rd hn).mono ?_
    rintro e w2 ⟨rfl, m2, rfl⟩
    go_wp2_with fail
    have hx2 := hx.below (below_drewN b1 m2) (Nat.le_refl _)
    refine (toIntS_any A n c xs _ hx2 hn).mono ?_
    rintro e w3 ⟨A3, c3, rfl, h3, b3⟩
    go_wp2_with fail
    refine (impl_ShareSum A3 n c3 xs w3 h3.rd hn).mono ?_
    rintro e w4 ⟨rfl, m4, rfl⟩
    have b4 := (below_drewN b1 m2).trans ((below_drewN b3 m4).mono (below_drewN b1 m2).size)
    go_wp2_with fail
    refine (toIntS_any A n c xs _ (hx.below b4 (Nat.le_refl _)) hn).mono ?_
    rintro e w5 ⟨A5, c5, rfl, h5, b5⟩
    go_wp2_with fail
    refine (eqIntS_any A3 A5 n n c3 c5 xs xs w5 ((h3.rd.drewN m4).below b5 (Nat.le_refl _)) h5.rd hn hn).mono ?_
    rintro e w6 ⟨rfl, m6, rfl⟩
    rw [decide_eq_true rfl]
    go_wp2
    go_ret
    exact ⟨rfl, b4.trans ((below_drewN b5 m6).mono b4.size)⟩
  · go_enter Try.func7, Try.ntmps7
    go_wp2
    go_ret
    exact ⟨rfl, Below.refl _ _⟩
set_option maxRecDepth 100000 in
theorem lifted (os : Os) (started : os.Started) (H : Type) (enc : TypeId × Value → H) :
    ReturnsInHanded {} Try.checked os 7 .any (Rows.fnExactShareSumSpec.pre6 enc Try.prog Try.f7 Rows.fnExactShareSumRow.domain false) (Rows.fnExactShareSumSpec.post enc Try.prog Try.f7 false true false false) := by
  refine returnsInHanded_of_change (C := Try.checked) own started (by kernel_rfl) Try.func7
    (ChangeSpec.witness6 (enc := enc) (C := Try.checked) false ⟨#[], #[.slice none 0 0], []⟩ 8 (by kernel_rfl) (by kernel_rfl) (by kernel_rfl) (by kernel_rfl)) ?_
  intro W base args ds gs before hval0 hW hcnd _
  have hval : ∀ (j : Nat) t v, Try.f7.params[j]? = some t → args[j]? = some v → Value.okWide Try.prog W .any base t v := hval0
  have hW' := hW
  obtain ⟨p, q, hA0, hV, rfl, hfz, hnd⟩ := hW
  have hA : DataW.TrodAll enc Try.prog W 0 (fun _ => true) true Try.f7.params.toList args.toList ds p := hA0
  rw [Try.params7] at hA hval
  obtain ⟨v0, vs0, d0, ds0, p0, q0, hargs, rfl, rfl, k0, r0⟩ := trodAll_cons hA
  obtain ⟨rfl, rfl, rfl⟩ := trodAll_nil r0
  obtain rfl : args = #[v0] := by cases args; simp_all
  obtain ⟨rfl, rfl⟩ := trodVars_none hV
  have lt0 : ∀ x ∈ p0, x.block < W.heap.size := by obtain ⟨m, hm⟩ := k0; exact DataW.trod_lt m _ _ _ hm
  obtain ⟨a0, n0, c0, rfl⟩ := okWide_slice Try.underlying23 (hval 0 23 v0 rfl rfl)
  obtain ⟨z0, f0⟩ := open_ints (W := W) k0
  clear hA0 hval0
  refine (walk a0 n0 c0 z0 W f0).mono fun e W' ⟨he, bel⟩ => ?_
  subst he
  exact ⟨_, rfl, _, _, _, [], _, [], hW', trodAll_mk1 (shut_bool Try.underlying4 _), (trodAll_cons_mk (Below.trod laidOut (by kernel_rfl) (of_decide_eq_true (by kernel_rfl)) k0 bel lt0) trodAll_mk0), rfl, bel.frame _, fun h => by cases h⟩
theorem over : Rows.fnExactShareSumRow.holds Try.pinned (OpenSpec.ofChange Rows.fnExactShareSumSpec) :=
  OpenClaim.holds_of_wide 7 Try.f7 rfl rfl rfl rfl rfl rfl rfl ⟨rfl, rfl, rfl, rfl, rfl⟩ rfl rfl rfl rfl rfl (by kernel_rfl) Try.func7 (by kernel_rfl)
    (of_decide_eq_true (by kernel_rfl)) (by unfold Func.isWrapper; first | (rw [if_pos (by decide +kernel)]; kernel_rfl) | (rw [if_neg (by decide +kernel)]; exact ⟨rfl, rfl⟩))
    (fun os started H enc _ => lifted os started H enc)
theorem proved : Rows.FnExactShareSumSaid := over
#print axioms proved
end Go.Proofs.Ytplalcciodbddaa.exactShareSum
