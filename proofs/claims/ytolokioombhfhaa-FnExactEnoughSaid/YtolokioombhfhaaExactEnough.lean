/- FnExactEnough returns true for every argument: the program's Enough and the reference's answer the same. No condition. -/
import Derived.Test.YtolokioombhfhaaFrame
import Derived.Test.Ytolokioombhfhaa4s
namespace Go.Proofs.Ytolokioombhfhaa.exactEnough
open Go.ChangeShapes Go.WideShapes Go.ChangeAt Go.RowKit
set_option linter.unusedSimpArgs false
set_option linter.unusedVariables false
theorem walk (o e m : Int) (w : World) (f : (Lit.int .i64 o).wf = true ∧ (Lit.int .i64 e).wf = true ∧ (Lit.int .i64 m).wf = true) :
    Calls Try.prog 5 #[.agg #[.int .i64 o, .int .i64 e, .int .i64 m]] w fun x w' => x = .returned (.bool true) ∧ Below w.heap.size w w' := by
  clear f
  go_enter Try.func5, Try.ntmps5
  go_wp2_with fail
  refine (toShape_any o e m _).mono ?_
  rintro x w1 ⟨rfl, b1⟩
  have c0 := b1.cell (p := ⟨w.heap.size, 0, none⟩) (by simp)
  have c1 := b1.cell (p := ⟨w.heap.size, 1, none⟩) (by simp)
  have c2 := b1.cell (p := ⟨w.heap.size, 2, none⟩) (by simp)
  go_wp2_with fail
  refine (spec_Enough o e m _).mono ?_
  rintro x w2 ⟨rfl, b2⟩
  have b12 := b1.trans (b2.mono b1.size)
  clear c0 c1 c2
  have c0 := b12.cell (p := ⟨w.heap.size, 0, none⟩) (by simp)
  have c1 := b12.cell (p := ⟨w.heap.size, 1, none⟩) (by simp)
  have c2 := b12.cell (p := ⟨w.heap.size, 2, none⟩) (by simp)
  go_wp2_with fail
  refine (toShape_any o e m _).mono ?_
  rintro x w3 ⟨rfl, b3⟩
  go_wp2_with fail
  refine (impl_Enough o e m _).mono ?_
  rintro x w4 ⟨rfl, b4⟩
  have hne : (enoughB o e m != enoughB o e m) = false := by simp
  go_wp2
  go_ret
  have b13 := b12.trans (b3.mono b12.size)
  exact ⟨rfl, (below_box w _).trans ((b13.trans (b4.mono b13.size)).mono (by simp))⟩
set_option maxRecDepth 100000 in
theorem lifted (os : Os) (started : os.Started) (H : Type) (enc : TypeId × Value → H) :
    ReturnsInHanded {} Try.checked os 5 .any (Rows.fnExactEnoughSpec.pre6 enc Try.prog Try.f5 Rows.fnExactEnoughRow.domain false) (Rows.fnExactEnoughSpec.post enc Try.prog Try.f5 false true false false) := by
  refine returnsInHanded_of_change (C := Try.checked) own started (by kernel_rfl) Try.func5
    (ChangeSpec.witness6 (enc := enc) (C := Try.checked) false ⟨#[], #[.agg #[.int .i64 0, .int .i64 0, .int .i64 0]], []⟩ 8 (by kernel_rfl) (by kernel_rfl) (by kernel_rfl) (by kernel_rfl)) ?_
  intro W base args ds gs before hval0 hW hcnd _
  have hval : ∀ (j : Nat) t v, Try.f5.params[j]? = some t → args[j]? = some v → Value.okWide Try.prog W .any base t v := hval0
  have hW' := hW
  obtain ⟨p, q, hA0, hV, rfl, hfz, hnd⟩ := hW
  have hA : DataW.TrodAll enc Try.prog W 0 (fun _ => true) true Try.f5.params.toList args.toList ds p := hA0
  rw [Try.params5] at hA hval
  obtain ⟨v0, vs0, d0, ds0, p0, q0, hargs, rfl, rfl, k0, r0⟩ := trodAll_cons hA
  obtain ⟨rfl, rfl, rfl⟩ := trodAll_nil r0
  obtain rfl : args = #[v0] := by cases args; simp_all
  obtain ⟨rfl, rfl⟩ := trodVars_none hV
  have lt0 : ∀ x ∈ p0, x.block < W.heap.size := by obtain ⟨m, hm⟩ := k0; exact DataW.trod_lt m _ _ _ hm
  obtain ⟨x0, y0, u0, rfl, f0⟩ := open_shape (hval 0 23 v0 rfl rfl) k0
  clear hA0 hval0
  refine (walk x0 y0 u0 W f0).mono fun e W' ⟨he, bel⟩ => ?_
  subst he
  exact ⟨_, rfl, _, _, _, [], _, [], hW', trodAll_mk1 (shut_bool Try.underlying4 _), (trodAll_cons_mk (Below.trod laidOut (by kernel_rfl) (of_decide_eq_true (by kernel_rfl)) k0 bel lt0) trodAll_mk0), rfl, bel.frame _, fun h => by cases h⟩
theorem over : Rows.fnExactEnoughRow.holds Try.pinned (OpenSpec.ofChange Rows.fnExactEnoughSpec) :=
  OpenClaim.holds_of_wide 5 Try.f5 rfl rfl rfl rfl rfl rfl rfl ⟨rfl, rfl, rfl, rfl, rfl⟩ rfl rfl rfl rfl rfl (by kernel_rfl) Try.func5 (by kernel_rfl)
    (of_decide_eq_true (by kernel_rfl)) (by unfold Func.isWrapper; first | (rw [if_pos (by decide +kernel)]; kernel_rfl) | (rw [if_neg (by decide +kernel)]; exact ⟨rfl, rfl⟩))
    (fun os started H enc _ => lifted os started H enc)
theorem proved : Rows.FnExactEnoughSaid := over
#print axioms proved
end Go.Proofs.Ytolokioombhfhaa.exactEnough
