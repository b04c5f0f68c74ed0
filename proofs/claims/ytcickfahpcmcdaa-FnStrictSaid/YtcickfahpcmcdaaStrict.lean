/- FnStrict returns true for every code. No condition. -/
import Derived.Test.YtcickfahpcmcdaaFrame
import Derived.Test.YtcickfahpcmcdaaPerm
import Derived.Test.YtcickfahpcmcdaaDshape2
namespace Go.Proofs.Ytcickfahpcmcdaa.strict
open Go.ChangeShapes Go.WideShapes Go.ChangeAt Go.RowKit
set_option linter.unusedSimpArgs false
set_option linter.unusedVariables false
set_option maxHeartbeats 1000000 in
theorem walk (A : Option Addr) (n c : Nat) (zs : List Int) (w : World) (f : RdL (Value.int .u8) w A n zs ∧ n ≤ c ∧ c ≤ maxLen ∧ ∀ z ∈ zs, (Lit.int .u8 z).wf = true) :
    Calls Try.prog 5 #[.slice A n c] w fun e w' => e = .returned (.bool true) ∧ Below w.heap.size w w' := by
  obtain ⟨hx, hc, hm, hz⟩ := f
  have HZ := Lib.hid (bytes_wf hz)
  clear hz
  by_cases hn : n ≤ 1048576
  · go_enter Try.func5, Try.ntmps5
    go_wp2_with fail
    refine (DrawStrict_any A n c zs w hx HZ.out hc hn).mono ?_
    rintro x w1 ⟨o, e, m, rfl, HB, b1⟩
    obtain ⟨ho0, ho1, he0, he1, hm0, hm1⟩ := HB.out
    have S1 := ShAt.new w1 o e m
    have B1 := bbox b1 b1.size (.cells #[.int .i64 o, .int .i64 e, .int .i64 m] 24)
    go_wp2_with fail
    refine (impl_Strict o e m _).mono ?_
    rintro x w2 ⟨rfl, b2⟩
    have S2 := S1.below b2
    have B2 := bstep B1 b2
    obtain ⟨c0, c1, c2, f0, f1, f2⟩ := S2.cells
    go_wp2_with fail
    refine (spec_Strict o e m _).mono ?_
    rintro x w3 ⟨rfl, b3⟩
    have S3 := S2.below b3
    have B3 := bstep B2 b3
    clear c0 c1 c2 f0 f1 f2
    obtain ⟨c0, c1, c2, f0, f1, f2⟩ := S3.cells
    have T3 := ShAt.new w3 o e (m + 1)
    have B3' := bbox B3 B3.size (.cells #[.int .i64 o, .int .i64 e, .int .i64 (m + 1)] 24)
    have S3' := S3.alloc (.cells #[.int .i64 o, .int .i64 e, .int .i64 (m + 1)] 24)
    have hlt3 := S3.lt
    cases hV : strictB o e m with
    | false =>
      clear hV
      go_wp2_with fail
      refine (alive_any _).mono ?_
      rintro x w6 ⟨rfl, b6⟩
      go_wp2
      go_ret
      exact ⟨rfl, bstep B3' b6⟩
    | true =>
      have HE : Hid (enoughB o e m = true) := by
        show _ = _
        simp only [strictB, enoughB, shapeB, inB, Bool.and_eq_true, decide_eq_true_eq] at hV ⊢
        omega
      have HT : Hid (strictB o e (m + 1) = shapeB o e (m + 1)) := by
        show _ = _
        rw [Bool.eq_iff_iff]
        simp only [strictB, shapeB, inB, Bool.and_eq_true, decide_eq_true_eq] at hV ⊢
        omega
      clear hV
      go_wp2_with fail
      refine (impl_Enough o e m _).mono ?_
      rintro x w4 ⟨rfl, b4⟩
      rw [HE.out]
      have T4 := T3.below b4
      have B4 := bstep B3' b4
      clear c0 c1 c2 f0 f1 f2
      obtain ⟨c0, c1, c2, f0, f1, f2⟩ := T4.cells
      go_wp2_with fail
      refine (impl_ShapeValid o e (m + 1) _).mono ?_
      rintro x w5 ⟨rfl, b5⟩
      have T5 := T4.below b5
      have B5 := bstep B4 b5
      clear c0 c1 c2 f0 f1 f2
      obtain ⟨c0, c1, c2, f0, f1, f2⟩ := T5.cells
      cases hS : shapeB o e (m + 1) with
      | false =>
        clear hS
        go_wp2_with fail
        refine (alive_any _).mono ?_
        rintro x w6 ⟨rfl, b6⟩
        go_wp2
        go_ret
        exact ⟨rfl, bstep B5 b6⟩
      | true =>
        have HS := Lib.hid hS; clear hS
        go_wp2_with fail
        refine (impl_Strict o e (m + 1) _).mono ?_
        rintro x w7 ⟨rfl, b7⟩
        have B7 := bstep B5 b7
        rw [HT.out, HS.out]
        clear c0 c1 c2 f0 f1 f2
        go_wp2_with fail
        refine (alive_any _).mono ?_
        rintro x w6 ⟨rfl, b6⟩
        go_wp2
        go_ret
        exact ⟨rfl, bstep B7 b6⟩
  · go_enter Try.func5, Try.ntmps5
    go_wp2
    go_ret
    exact ⟨rfl, Below.refl _ _⟩
set_option maxRecDepth 100000 in
theorem lifted (os : Os) (started : os.Started) (H : Type) (enc : TypeId × Value → H) :
    ReturnsInHanded {} Try.checked os 5 .any (Rows.fnStrictSpec.pre6 enc Try.prog Try.f5 Rows.fnStrictRow.domain false) (Rows.fnStrictSpec.post enc Try.prog Try.f5 false true false false) := by
  refine returnsInHanded_of_change (C := Try.checked) own started (by kernel_rfl) Try.func5
    (ChangeSpec.witness6 (enc := enc) (C := Try.checked) false ⟨#[], #[.slice none 0 0], []⟩ 8 (by kernel_rfl) (by kernel_rfl) (by kernel_rfl) (by kernel_rfl)) ?_
  intro W base args ds gs before hval0 hW hcnd _
  have hval : ∀ (j : Nat) t v, Try.f5.params[j]? = some t → args[j]? = some v → Value.okWide Try.prog W .any base t v := hval0
  have hW' := hW
  obtain ⟨p, q, hA0, hV, rfl, hfz, hnd⟩ := hW
  have hA : DataW.TrodAll enc Try.prog W 0 (fun _ => true) true Try.f5.params.toList args.toList ds p := hA0
  rw [Try.params5] at hA hval
  obtain ⟨v0, vs0, d0, ds0, p0, q0, hargs, rfl, rfl, k0, r0⟩ := trodAll_cons hA
  obtain ⟨rfl, rfl, rfl⟩ := trodAll_nil r0
  obtain rfl : args = #[v0] := by cases args; simp_all
  obtain ⟨rfl, rfl⟩ := trodVars_none hV
  have lt0 : ∀ x ∈ p0, x.block < W.heap.size := by obtain ⟨m, hm⟩ := k0; exact DataW.trod_lt m _ _ _ hm
  obtain ⟨a0, n0, c0, rfl⟩ := okWide_slice Try.underlying22 (hval 0 22 v0 rfl rfl)
  obtain ⟨z0, f0⟩ := open_bytes (W := W) k0
  clear hA0 hval0
  refine (walk a0 n0 c0 z0 W f0).mono fun e W' ⟨he, bel⟩ => ?_
  subst he
  exact ⟨_, rfl, _, _, _, [], _, [], hW', trodAll_mk1 (shut_bool Try.underlying4 _), (trodAll_cons_mk (Below.trod laidOut (by kernel_rfl) (of_decide_eq_true (by kernel_rfl)) k0 bel lt0) trodAll_mk0), rfl, bel.frame _, fun h => by cases h⟩
theorem closed : joinedFacts Try.pinned.checked.prog 5 Try.f5 Rows.fnStrictSpec Rows.fnStrictRow = true := by
  unfold joinedFacts
  repeat' (with_reducible refine Bool.and_eq_true_iff.2 ⟨?_, ?_⟩)
  · kernel_rfl
  · exact laidOut
  · kernel_rfl
  · kernel_rfl
  · kernel_rfl
  · kernel_rfl
  · kernel_rfl
  · kernel_rfl
  · kernel_rfl
  · kernel_rfl
  · kernel_rfl
  · kernel_rfl
  · kernel_rfl
  · kernel_rfl
  · kernel_rfl
  · kernel_rfl
  · kernel_rfl
  · kernel_rfl
  · kernel_rfl
  · kernel_rfl
  · kernel_rfl
  · kernel_rfl
  · kernel_rfl
  · kernel_rfl
  · kernel_rfl
  · exact heavy.1
  · exact heavy.2.1
  · exact heavy.2.2
  · kernel_rfl
  · kernel_rfl
  · kernel_rfl
  · kernel_rfl
theorem over : Rows.fnStrictRow.holds Try.pinned (OpenSpec.ofChange Rows.fnStrictSpec) :=
  OpenClaim.holds_of_wide 5 Try.f5 rfl rfl rfl rfl rfl rfl rfl ⟨rfl, rfl, rfl, rfl, rfl⟩ rfl rfl rfl rfl rfl (by kernel_rfl) Try.func5 closed
    (of_decide_eq_true (by kernel_rfl)) (by unfold Func.isWrapper; first | (rw [if_pos (by decide +kernel)]; kernel_rfl) | (rw [if_neg (by decide +kernel)]; exact ⟨rfl, rfl⟩))
    (fun os started H enc _ => lifted os started H enc)
theorem proved : Rows.FnStrictSaid := over
#print axioms proved
end Go.Proofs.Ytcickfahpcmcdaa.strict
