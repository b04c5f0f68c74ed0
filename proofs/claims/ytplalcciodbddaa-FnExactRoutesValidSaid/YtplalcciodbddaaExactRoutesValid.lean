/- FnExactRoutesValid returns true for every table: the program's RoutesValid and the reference's answer the same. No condition. -/
import Derived.Test.YtplalcciodbddaaFrame
import Derived.Test.Ytplalcciodbddaa6t
namespace Go.Proofs.Ytplalcciodbddaa.exactRoutesValid
open Go.ChangeShapes Go.WideShapes Go.ChangeAt Go.RowKit
set_option linter.unusedSimpArgs false
set_option linter.unusedVariables false
theorem walk (A : Option Addr) (n c : Nat) (xs : List Rt) (w : World) (f : RdR w A n xs ∧ n ≤ c ∧ c ≤ maxLen ∧ ∀ z ∈ xs, z.b.size ≤ maxLen ∧ (Lit.int .i64 z.o).wf = true) :
    Calls Try.prog 12 #[.slice A n c] w fun e w' => e = .returned (.bool true) ∧ Below w.heap.size w w' := by
  obtain ⟨hx, hnc, hcm, hsz⟩ := f
  have HSZ : Hid (∀ x ∈ xs, x.b.size ≤ maxLen) := fun x hx => (hsz x hx).1
  clear hsz
  go_enter Try.func12, Try.ntmps12
  go_wp2_with fail
  refine (szRouteS_any A n c xs w hx (by omega) HSZ.out).mono ?_
  rintro e w0 ⟨r, rfl, hr, B0⟩
  by_cases hr0 : r < 0
  · go_wp2
    go_ret
    exact ⟨rfl, B0⟩
  · obtain ⟨hn, hs⟩ := hr.out (by omega)
    have HS := Lib.hid hs; clear hs hr
    go_wp2_with fail
    refine (toRouteS_any A n c xs _ (hx.below B0 (Nat.le_refl _)) hn).mono ?_
    rintro e w1 ⟨A1, c1, rfl, h1, b1⟩
    have B1 := bstep B0 b1
    go_wp2_with fail
    refine (spec_RoutesValid A1 n c1 xs w1 (OwnR.rd h1) hn HS.out).mono ?_
    rintro e w2 ⟨v2, rfl, hv2, m2, rfl⟩
    have B2 := below_drewN B1 m2
    go_wp2_with fail
    refine (toRouteS_any A n c xs _ (hx.below B2 (Nat.le_refl _)) hn).mono ?_
    rintro e w3 ⟨A3, c3, rfl, h3, b3⟩
    have B3 := bstep B2 b3
    go_wp2_with fail
    refine (impl_RoutesValid A3 n c3 xs w3 (OwnR.rd h3) (OwnM.cap h3).1 hn).mono ?_
    rintro e w4 ⟨v4, rfl, hv4, b4⟩
    have B4 := bstep B3 b4
    obtain rfl : v4 = v2 := Bool.eq_iff_iff.2 (hv4.out.trans hv2.out.symm)
    clear hv2 hv4
    go_wp2_with fail
    refine (toRouteS_any A n c xs _ (hx.below B4 (Nat.le_refl _)) hn).mono ?_
    rintro e w5 ⟨A5, c5, rfl, h5, b5⟩
    have B5 := bstep B4 b5
    go_wp2_with fail
    refine (eqRouteS_same A3 A5 n c3 c5 xs w5 (((OwnR.rd h3).below b4 (Nat.le_refl _)).below b5 (Nat.le_refl _)) (OwnR.rd h5) hn).mono ?_
    rintro e w6 ⟨rfl, b6⟩
    go_wp2
    go_ret
    exact ⟨rfl, bstep B5 b6⟩
set_option maxRecDepth 100000 in
theorem lifted (os : Os) (started : os.Started) (H : Type) (enc : TypeId × Value → H) :
    ReturnsInHanded {} Try.checked os 12 .any (Rows.fnExactRoutesValidSpec.pre6 enc Try.prog Try.f12 Rows.fnExactRoutesValidRow.domain false) (Rows.fnExactRoutesValidSpec.post enc Try.prog Try.f12 false true false false) := by
  refine returnsInHanded_of_change (C := Try.checked) own started (by kernel_rfl) Try.func12
    (ChangeSpec.witness6 (enc := enc) (C := Try.checked) false ⟨#[], #[.slice none 0 0], []⟩ 8 (by kernel_rfl) (by kernel_rfl) (by kernel_rfl) (by kernel_rfl)) ?_
  intro W base args ds gs before hval0 hW hcnd _
  have hval : ∀ (j : Nat) t v, Try.f12.params[j]? = some t → args[j]? = some v → Value.okWide Try.prog W .any base t v := hval0
  have hW' := hW
  obtain ⟨p, q, hA0, hV, rfl, hfz, hnd⟩ := hW
  have hA : DataW.TrodAll enc Try.prog W 0 (fun _ => true) true Try.f12.params.toList args.toList ds p := hA0
  rw [Try.params12] at hA hval
  obtain ⟨v0, vs0, d0, ds0, p0, q0, hargs, rfl, rfl, k0, r0⟩ := trodAll_cons hA
  obtain ⟨rfl, rfl, rfl⟩ := trodAll_nil r0
  obtain rfl : args = #[v0] := by cases args; simp_all
  obtain ⟨rfl, rfl⟩ := trodVars_none hV
  have lt0 : ∀ x ∈ p0, x.block < W.heap.size := by obtain ⟨m, hm⟩ := k0; exact DataW.trod_lt m _ _ _ hm
  obtain ⟨a0, n0, c0, rfl⟩ := okWide_slice Try.underlying39 (hval 0 39 v0 rfl rfl)
  obtain ⟨z0, f0⟩ := open_routes (W := W) k0
  clear hA0 hval0
  refine (walk a0 n0 c0 z0 W f0).mono fun e W' ⟨he, bel⟩ => ?_
  subst he
  exact ⟨_, rfl, _, _, _, [], _, [], hW', trodAll_mk1 (shut_bool Try.underlying4 _), (trodAll_cons_mk (Below.trod laidOut (by kernel_rfl) (of_decide_eq_true (by kernel_rfl)) k0 bel lt0) trodAll_mk0), rfl, bel.frame _, fun h => by cases h⟩
theorem closed : joinedFacts Try.pinned.checked.prog 12 Try.f12 Rows.fnExactRoutesValidSpec Rows.fnExactRoutesValidRow = true := by
  unfold joinedFacts
  repeat' (with_reducible refine Bool.and_eq_true_iff.2 ⟨?_, ?_⟩)
  · kernel_rfl
  · exact laidOut
  · kernel_rfl
  · kernel_rfl
  · kernel_rfl
  · kernel_rfl
  · kernel_rfl
  · kernel_rfl
  · kernel_rfl
  · kernel_rfl
  · kernel_rfl
  · kernel_rfl
  · kernel_rfl
  · kernel_rfl
  · kernel_rfl
  · kernel_rfl
  · kernel_rfl
  · kernel_rfl
  · kernel_rfl
  · kernel_rfl
  · kernel_rfl
  · kernel_rfl
  · kernel_rfl
  · kernel_rfl
  · kernel_rfl
  · exact heavy.1
  · exact heavy.2.1
  · exact heavy.2.2
  · kernel_rfl
  · kernel_rfl
  · kernel_rfl
  · kernel_rfl
theorem over : Rows.fnExactRoutesValidRow.holds Try.pinned (OpenSpec.ofChange Rows.fnExactRoutesValidSpec) :=
  OpenClaim.holds_of_wide 12 Try.f12 rfl rfl rfl rfl rfl rfl rfl ⟨rfl, rfl, rfl, rfl, rfl⟩ rfl rfl rfl rfl rfl (by kernel_rfl) Try.func12 closed
    (of_decide_eq_true (by kernel_rfl)) (by unfold Func.isWrapper; first | (rw [if_pos (by decide +kernel)]; kernel_rfl) | (rw [if_neg (by decide +kernel)]; exact ⟨rfl, rfl⟩))
    (fun os started H enc _ => lifted os started H enc)
theorem proved : Rows.FnExactRoutesValidSaid := over
#print axioms proved
end Go.Proofs.Ytplalcciodbddaa.exactRoutesValid
