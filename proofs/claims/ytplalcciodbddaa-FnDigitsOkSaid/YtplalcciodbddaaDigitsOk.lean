/- FnDigitsOk returns true for every code. No condition. -/
import Derived.Test.YtplalcciodbddaaFrame
import Derived.Test.YtplalcciodbddaaPerm
import Derived.Test.YtplalcciodbddaaD6
import Derived.Test.Ytplalcciodbddaa6d
namespace Go.Proofs.Ytplalcciodbddaa.digitsOk
open Go.ChangeShapes Go.WideShapes Go.ChangeAt Go.RowKit
set_option linter.unusedSimpArgs false
set_option linter.unusedVariables false
theorem one_more (s t : ByteArray) (h : t.size = 1) (hs : s.size ≤ 7) : (s ++ t).size ≤ 1048600 := by rw [ByteArray.size_append]; omega
theorem digits_app (s t : ByteArray) : digitsB (s ++ t) = (digitsB s && digitsB t) := by
  unfold digitsB
  rw [ByteArray.data_append, Array.toList_append, List.all_append]
theorem digits_cut (s : ByteArray) (k : Nat) (h : digitsB s = true) : digitsB (s.extract 0 k) = true := by
  unfold digitsB at h ⊢
  rw [List.all_eq_true] at h ⊢
  intro x hx
  refine h x ?_
  rw [ByteArray.data_extract, Array.toList_extract] at hx
  simp at hx
  exact List.mem_of_mem_take hx
set_option maxHeartbeats 1000000 in
theorem walk (A : Option Addr) (n c : Nat) (zs : List Int) (w : World) (f : RdL (Value.int .u8) w A n zs ∧ n ≤ c ∧ c ≤ maxLen ∧ ∀ z ∈ zs, (Lit.int .u8 z).wf = true) :
    Calls Try.prog 6 #[.slice A n c] w fun e w' => e = .returned (.bool true) ∧ Below w.heap.size w w' := by
  obtain ⟨hx, hc, hm, hz⟩ := f
  have HZ := Lib.hid (bytes_wf hz)
  clear hz
  by_cases hn : n ≤ 1048576
  · go_enter Try.func6, Try.ntmps6
    go_wp2_with fail
    refine (DrawDigitsOk_any A n c zs w hx HZ.out hc hn).mono ?_
    rintro x w2 ⟨s2, rfl, HS2, B2⟩
    have hs2 := HS2.out
    go_wp2_with fail
    refine (impl_DigitsOk s2 w2 (by omega)).mono ?_
    rintro x w3 ⟨rfl, m3, rfl⟩
    go_wp2_with fail
    refine (spec_DigitsOk s2 _ (by omega)).mono ?_
    rintro x w4 ⟨rfl, m4, rfl⟩
    cases hV : digitsB s2 with
    | false =>
      clear hV
      go_wp2_with fail
      refine (impl_DigitsOk (s2 ++ ByteArray.mk #[52]) _ (one_more _ _ rfl hs2)).mono ?_
      rintro x w7 ⟨rfl, m7, rfl⟩
      rw [show digitsB (s2 ++ ByteArray.mk #[52]) = false by rw [digits_app]; simp [show digitsB (ByteArray.mk #[52]) = false from rfl]]
      go_wp2_with fail
      refine (impl_DigitsOk (ByteArray.mk #[]) _ (by decide)).mono ?_
      rintro x w8 ⟨rfl, m8, rfl⟩
      rw [show digitsB (ByteArray.mk #[]) = true from rfl]
      go_wp2_with fail
      refine (alive_any _).mono ?_
      rintro x w9 ⟨rfl, b9⟩
      go_wp2
      go_ret
      exact ⟨rfl, bstep (below_drewN B2 _) b9⟩
    | true =>
      have HV := Lib.hid hV; clear hV
      go_wp2_with fail
      refine (impl_DigitsOk (s2.extract 0 (s2.size / 2)) _ (by rw [ByteArray.size_extract]; omega)).mono ?_
      rintro x w5 ⟨rfl, m5, rfl⟩
      rw [digits_cut _ _ HV.out]
      go_wp2_with fail
      refine (impl_DigitsOk (s2 ++ ByteArray.mk #[51]) _ (one_more _ _ rfl hs2)).mono ?_
      rintro x w6 ⟨rfl, m6, rfl⟩
      rw [show digitsB (s2 ++ ByteArray.mk #[51]) = true by rw [digits_app, HV.out]; rfl]
      go_wp2_with fail
      refine (impl_DigitsOk (s2 ++ ByteArray.mk #[52]) _ (one_more _ _ rfl hs2)).mono ?_
      rintro x w7 ⟨rfl, m7, rfl⟩
      rw [show digitsB (s2 ++ ByteArray.mk #[52]) = false by rw [digits_app]; simp [show digitsB (ByteArray.mk #[52]) = false from rfl]]
      go_wp2_with fail
      refine (impl_DigitsOk (ByteArray.mk #[]) _ (by decide)).mono ?_
      rintro x w8 ⟨rfl, m8, rfl⟩
      rw [show digitsB (ByteArray.mk #[]) = true from rfl]
      go_wp2_with fail
      refine (alive_any _).mono ?_
      rintro x w9 ⟨rfl, b9⟩
      go_wp2
      go_ret
      exact ⟨rfl, bstep (below_drewN B2 _) b9⟩
  · go_enter Try.func6, Try.ntmps6
    go_wp2
    go_ret
    exact ⟨rfl, Below.refl _ _⟩
set_option maxRecDepth 100000 in
theorem lifted (os : Os) (started : os.Started) (H : Type) (enc : TypeId × Value → H) :
    ReturnsInHanded {} Try.checked os 6 .any (Rows.fnDigitsOkSpec.pre6 enc Try.prog Try.f6 Rows.fnDigitsOkRow.domain false) (Rows.fnDigitsOkSpec.post enc Try.prog Try.f6 false true false false) := by
  refine returnsInHanded_of_change (C := Try.checked) own started (by kernel_rfl) Try.func6
    (ChangeSpec.witness6 (enc := enc) (C := Try.checked) false ⟨#[], #[.slice none 0 0], []⟩ 8 (by kernel_rfl) (by kernel_rfl) (by kernel_rfl) (by kernel_rfl)) ?_
  intro W base args ds gs before hval0 hW hcnd _
  have hval : ∀ (j : Nat) t v, Try.f6.params[j]? = some t → args[j]? = some v → Value.okWide Try.prog W .any base t v := hval0
  have hW' := hW
  obtain ⟨p, q, hA0, hV, rfl, hfz, hnd⟩ := hW
  have hA : DataW.TrodAll enc Try.prog W 0 (fun _ => true) true Try.f6.params.toList args.toList ds p := hA0
  rw [Try.params6] at hA hval
  obtain ⟨v0, vs0, d0, ds0, p0, q0, hargs, rfl, rfl, k0, r0⟩ := trodAll_cons hA
  obtain ⟨rfl, rfl, rfl⟩ := trodAll_nil r0
  obtain rfl : args = #[v0] := by cases args; simp_all
  obtain ⟨rfl, rfl⟩ := trodVars_none hV
  have lt0 : ∀ x ∈ p0, x.block < W.heap.size := by obtain ⟨m, hm⟩ := k0; exact DataW.trod_lt m _ _ _ hm
  obtain ⟨a0, n0, c0, rfl⟩ := okWide_slice Try.underlying27 (hval 0 27 v0 rfl rfl)
  obtain ⟨z0, f0⟩ := open_bytes (W := W) k0
  clear hA0 hval0
  refine (walk a0 n0 c0 z0 W f0).mono fun e W' ⟨he, bel⟩ => ?_
  subst he
  exact ⟨_, rfl, _, _, _, [], _, [], hW', trodAll_mk1 (shut_bool Try.underlying4 _), (trodAll_cons_mk (Below.trod laidOut (by kernel_rfl) (of_decide_eq_true (by kernel_rfl)) k0 bel lt0) trodAll_mk0), rfl, bel.frame _, fun h => by cases h⟩
theorem closed : joinedFacts Try.pinned.checked.prog 6 Try.f6 Rows.fnDigitsOkSpec Rows.fnDigitsOkRow = true := by
  unfold joinedFacts
  repeat' (with_reducible refine Bool.and_eq_true_iff.2 ⟨?_, ?_⟩)
  · kernel_rfl
  · exact laidOut
  · kernel_rfl
  · kernel_rfl
  · kernel_rfl
  · kernel_rfl
  · kernel_rfl
  · kernel_rfl
  · kernel_rfl
  · kernel_rfl
  · kernel_rfl
  · kernel_rfl
  · kernel_rfl
  · kernel_rfl
  · kernel_rfl
  · kernel_rfl
  · kernel_rfl
  · kernel_rfl
  · kernel_rfl
  · kernel_rfl
  · kernel_rfl
  · kernel_rfl
  · kernel_rfl
  · kernel_rfl
  · kernel_rfl
  · exact heavy.1
  · exact heavy.2.1
  · exact heavy.2.2
  · kernel_rfl
  · kernel_rfl
  · kernel_rfl
  · kernel_rfl
theorem over : Rows.fnDigitsOkRow.holds Try.pinned (OpenSpec.ofChange Rows.fnDigitsOkSpec) :=
  OpenClaim.holds_of_wide 6 Try.f6 rfl rfl rfl rfl rfl rfl rfl ⟨rfl, rfl, rfl, rfl, rfl⟩ rfl rfl rfl rfl rfl (by kernel_rfl) Try.func6 closed
    (of_decide_eq_true (by kernel_rfl)) (by unfold Func.isWrapper; first | (rw [if_pos (by decide +kernel)]; kernel_rfl) | (rw [if_neg (by decide +kernel)]; exact ⟨rfl, rfl⟩))
    (fun os started H enc _ => lifted os started H enc)
theorem proved : Rows.FnDigitsOkSaid := over
#print axioms proved
end Go.Proofs.Ytplalcciodbddaa.digitsOk
