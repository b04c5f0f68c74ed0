/- FnCallsMoved returns true for every code. No condition. -/
import Derived.Test.YtcickfahpcmcdaaFrame
import Derived.Test.YtcickfahpcmcdaaPerm
import Derived.Test.YtcickfahpcmcdaaAsk2
import Derived.Test.Ytcickfahpcmcdaa4sc
import Derived.Test.Ytcickfahpcmcdaa4c
namespace Go.Proofs.Ytcickfahpcmcdaa.callsMoved
open Go.ChangeShapes Go.WideShapes Go.ChangeAt Go.RowKit
set_option linter.unusedSimpArgs false
set_option linter.unusedVariables false
set_option maxHeartbeats 4000000 in
set_option maxRecDepth 100000 in
theorem walk (A : Option Addr) (n c : Nat) (zs : List Int) (w : World) (f : RdL (Value.int .u8) w A n zs ∧ n ≤ c ∧ c ≤ maxLen ∧ ∀ z ∈ zs, (Lit.int .u8 z).wf = true) :
    Calls Try.prog 8 #[.slice A n c] w fun e w' => e = .returned (.bool true) ∧ Below w.heap.size w w' := by
  obtain ⟨hx, hc, hm, hz⟩ := f
  have HZ := Lib.hid (bytes_wf hz)
  clear hz
  by_cases hn : n ≤ 1048576
  · go_enter Try.func8, Try.ntmps8
    go_wp2_with fail
    refine (DrawCallsMoved_any A n c zs w hx HZ.out hc hn).mono ?_
    rintro x w1 ⟨A1, A2, n1, c1, n2, c2, xs, ys, rfl, hn1, hn2, hX, hY, b1⟩
    have HLX := hX.len
    obtain ⟨V, HV⟩ : ∃ V, Hid (movedC xs ys = V) := ⟨_, rfl⟩
    have HC : Hid (movedC ys xs = V) := by show _ = _; rw [movedC_comm, HV.out]
    have hvb : V ≤ n1 := by have := (movedC_le xs ys).2; rw [HV.out] at this; have := HLX.out; omega
    have z1 : (V != V) = false := by simp
    have z2 : (V == V) = true := by simp
    have z3 : decide (V ≤ (n1 : Int)) = true := decide_eq_true hvb
    go_wp2_with fail
    refine (impl_CallsMoved A1 A2 n1 n2 c1 c2 xs ys w1 hX hY (by omega) (by omega)).mono ?_
    rintro x w2 ⟨rfl, m2, rfl⟩
    rw [HV.out]
    go_wp2_with fail
    refine (spec_CallsMoved A1 A2 n1 n2 c1 c2 xs ys _ (hX.drewN _) (hY.drewN _) (by omega) (by omega)).mono ?_
    rintro x w3 ⟨rfl, m3, rfl⟩
    rw [HV.out]
    go_wp2_with fail
    refine (impl_CallsMoved A1 A1 n1 n1 c1 c1 xs xs _ (hX.drewN _) (hX.drewN _) (by omega) (by omega)).mono ?_
    rintro x w4 ⟨rfl, m4, rfl⟩
    rw [movedC_self]
    go_wp2_with fail
    refine (impl_CallsMoved A2 A1 n2 n1 c2 c1 ys xs _ (hY.drewN _) (hX.drewN _) (by omega) (by omega)).mono ?_
    rintro x w5 ⟨rfl, m5, rfl⟩
    rw [HC.out]
    go_wp2_with fail
    refine (alive_any _).mono ?_
    rintro x w6 ⟨rfl, b6⟩
    go_wp2
    go_ret
    exact ⟨rfl, bstep (below_drewN b1 _) b6⟩
  · go_enter Try.func8, Try.ntmps8
    go_wp2
    go_ret
    exact ⟨rfl, Below.refl _ _⟩
set_option maxRecDepth 100000 in
theorem lifted (os : Os) (started : os.Started) (H : Type) (enc : TypeId × Value → H) :
    ReturnsInHanded {} Try.checked os 8 .any (Rows.fnCallsMovedSpec.pre6 enc Try.prog Try.f8 Rows.fnCallsMovedRow.domain false) (Rows.fnCallsMovedSpec.post enc Try.prog Try.f8 false true false false) := by
  refine returnsInHanded_of_change (C := Try.checked) own started (by kernel_rfl) Try.func8
    (ChangeSpec.witness6 (enc := enc) (C := Try.checked) false ⟨#[], #[.slice none 0 0], []⟩ 8 (by kernel_rfl) (by kernel_rfl) (by kernel_rfl) (by kernel_rfl)) ?_
  intro W base args ds gs before hval0 hW hcnd _
  have hval : ∀ (j : Nat) t v, Try.f8.params[j]? = some t → args[j]? = some v → Value.okWide Try.prog W .any base t v := hval0
  have hW' := hW
  obtain ⟨p, q, hA0, hV, rfl, hfz, hnd⟩ := hW
  have hA : DataW.TrodAll enc Try.prog W 0 (fun _ => true) true Try.f8.params.toList args.toList ds p := hA0
  rw [Try.params8] at hA hval
  obtain ⟨v0, vs0, d0, ds0, p0, q0, hargs, rfl, rfl, k0, r0⟩ := trodAll_cons hA
  obtain ⟨rfl, rfl, rfl⟩ := trodAll_nil r0
  obtain rfl : args = #[v0] := by cases args; simp_all
  obtain ⟨rfl, rfl⟩ := trodVars_none hV
  have lt0 : ∀ x ∈ p0, x.block < W.heap.size := by obtain ⟨m, hm⟩ := k0; exact DataW.trod_lt m _ _ _ hm
  obtain ⟨a0, n0, c0, rfl⟩ := okWide_slice Try.underlying22 (hval 0 22 v0 rfl rfl)
  obtain ⟨z0, f0⟩ := open_bytes (W := W) k0
  clear hA0 hval0
  refine (walk a0 n0 c0 z0 W f0).mono fun e W' ⟨he, bel⟩ => ?_
  subst he
  exact ⟨_, rfl, _, _, _, [], _, [], hW', trodAll_mk1 (shut_bool Try.underlying4 _), (trodAll_cons_mk (Below.trod laidOut (by kernel_rfl) (of_decide_eq_true (by kernel_rfl)) k0 bel lt0) trodAll_mk0), rfl, bel.frame _, fun h => by cases h⟩
theorem closed : joinedFacts Try.pinned.checked.prog 8 Try.f8 Rows.fnCallsMovedSpec Rows.fnCallsMovedRow = true := by
  unfold joinedFacts
  repeat' (with_reducible refine Bool.and_eq_true_iff.2 ⟨?_, ?_⟩)
  · kernel_rfl
  · exact laidOut
  · kernel_rfl
  · kernel_rfl
  · kernel_rfl
  · kernel_rfl
  · kernel_rfl
  · kernel_rfl
  · kernel_rfl
  · kernel_rfl
  · kernel_rfl
  · kernel_rfl
  · kernel_rfl
  · kernel_rfl
  · kernel_rfl
  · kernel_rfl
  · kernel_rfl
  · kernel_rfl
  · kernel_rfl
  · kernel_rfl
  · kernel_rfl
  · kernel_rfl
  · kernel_rfl
  · kernel_rfl
  · kernel_rfl
  · exact heavy.1
  · exact heavy.2.1
  · exact heavy.2.2
  · kernel_rfl
  · kernel_rfl
  · kernel_rfl
  · kernel_rfl
theorem over : Rows.fnCallsMovedRow.holds Try.pinned (OpenSpec.ofChange Rows.fnCallsMovedSpec) :=
  OpenClaim.holds_of_wide 8 Try.f8 rfl rfl rfl rfl rfl rfl rfl ⟨rfl, rfl, rfl, rfl, rfl⟩ rfl rfl rfl rfl rfl (by kernel_rfl) Try.func8 closed
    (of_decide_eq_true (by kernel_rfl)) (by unfold Func.isWrapper; first | (rw [if_pos (by decide +kernel)]; kernel_rfl) | (rw [if_neg (by decide +kernel)]; exact ⟨rfl, rfl⟩))
    (fun os started H enc _ => lifted os started H enc)
theorem proved : Rows.FnCallsMovedSaid := over
#print axioms proved
end Go.Proofs.Ytcickfahpcmcdaa.callsMoved
