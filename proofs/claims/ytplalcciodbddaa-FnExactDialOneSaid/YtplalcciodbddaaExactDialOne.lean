/- FnExactDialOne returns true for every plan and text: the program's DialOne and the reference's answer the same. No condition. -/
import Derived.Test.YtplalcciodbddaaFrame
import Derived.Test.Ytplalcciodbddaa6q
namespace Go.Proofs.Ytplalcciodbddaa.exactDialOne
open Go.ChangeShapes Go.WideShapes Go.ChangeAt Go.RowKit
open Go.ChangeMaps (open_string shut_string)
set_option linter.unusedSimpArgs false
set_option linter.unusedVariables false
theorem walk (A : Option Addr) (n c : Nat) (xs : List ByteArray) (s : ByteArray) (w : World) (f : RdL sv w A n xs ∧ n ≤ c ∧ c ≤ maxLen ∧ ∀ z ∈ xs, z.size ≤ maxLen) (fs : s.size ≤ maxLen) :
    Calls Try.prog 13 #[.slice A n c, .string s] w fun e w' => e = .returned (.bool true) ∧ Below w.heap.size w w' := by
  obtain ⟨hx, hnc, hcm, hsz⟩ := f
  have HSZ := Lib.hid hsz; clear hsz
  by_cases hss : s.size ≤ 1048576
  · go_enter Try.func13, Try.ntmps13
    go_wp2_with fail
    refine (szStringS_any A n c xs w hx (by omega) HSZ.out).mono ?_
    rintro e w0 ⟨r, rfl, hr, m0, rfl⟩
    by_cases hr0 : r < 0
    · go_wp2
      go_ret
      exact ⟨rfl, below_drewN (Below.refl _ _) _⟩
    · obtain ⟨hn, hs⟩ := hr.out (by omega)
      have HS := Lib.hid hs; clear hs hr
      have B0 := below_drewN (Below.refl w.heap.size w) m0
      go_wp2_with fail
      refine (toStringS_any A n c xs _ (hx.drewN _) hn).mono ?_
      rintro e w1 ⟨A1, c1, rfl, h1, b1⟩
      have B1 := bstep B0 b1
      go_wp2_with fail
      refine (spec_DialOne A1 n c1 xs s w1 h1.rd hn hss HS.out).mono ?_
      rintro e w2 ⟨rfl, m2, rfl⟩
      have B2 := below_drewN B1 m2
      obtain ⟨p, HP⟩ : ∃ p, Hid (dialOne xs s = p) := ⟨_, rfl⟩
      rw [HP.out]
      go_wp2_with fail
      refine (toStringS_any A n c xs _ (hx.below B2 (Nat.le_refl _)) hn).mono ?_
      rintro e w3 ⟨A3, c3, rfl, h3, b3⟩
      have B3 := bstep B2 b3
      go_wp2_with fail
      refine (impl_DialOne A3 n c3 xs s w3 h3.rd h3.cap.1 hn hss).mono ?_
      rintro e w4 ⟨rfl, m4, rfl⟩
      have B4 := below_drewN B3 m4
      rw [HP.out]
      go_wp2_with fail
      refine (toStringS_any A n c xs _ (hx.below B4 (Nat.le_refl _)) hn).mono ?_
      rintro e w5 ⟨A5, c5, rfl, h5, b5⟩
      have B5 := bstep B4 b5
      go_wp2_with fail
      refine (eqStringS_any A3 A5 n n c3 c5 xs xs w5 ((h3.rd.drewN m4).below b5 (Nat.le_refl _)) h5.rd hn hn).mono ?_
      rintro e w6 ⟨v6, rfl, hv6, m6, rfl⟩
      obtain rfl := hv6.out.2 rfl
      clear hv6
      go_wp2
      go_ret
      exact ⟨rfl, below_drewN B5 m6⟩
  · go_enter Try.func13, Try.ntmps13
    go_wp2
    go_ret
    exact ⟨rfl, Below.refl _ _⟩
set_option maxRecDepth 100000 in
theorem lifted (os : Os) (started : os.Started) (H : Type) (enc : TypeId × Value → H) :
    ReturnsInHanded {} Try.checked os 13 .any (Rows.fnExactDialOneSpec.pre6 enc Try.prog Try.f13 Rows.fnExactDialOneRow.domain false) (Rows.fnExactDialOneSpec.post enc Try.prog Try.f13 false true false false) := by
  refine returnsInHanded_of_change (C := Try.checked) own started (by kernel_rfl) Try.func13
    (ChangeSpec.witness6 (enc := enc) (C := Try.checked) false ⟨#[], #[.slice none 0 0, .string ByteArray.empty], []⟩ 8 (by kernel_rfl) (by kernel_rfl) (by kernel_rfl) (by kernel_rfl)) ?_
  intro W base args ds gs before hval0 hW hcnd _
  have hval : ∀ (j : Nat) t v, Try.f13.params[j]? = some t → args[j]? = some v → Value.okWide Try.prog W .any base t v := hval0
  have hW' := hW
  obtain ⟨p, q, hA0, hV, rfl, hfz, hnd⟩ := hW
  have hA : DataW.TrodAll enc Try.prog W 0 (fun _ => true) true Try.f13.params.toList args.toList ds p := hA0
  rw [Try.params13] at hA hval
  obtain ⟨v0, vs0, d0, ds0, p0, q0, hargs, rfl, rfl, k0, r0⟩ := trodAll_cons hA
  obtain ⟨v1, vs1, d1, ds1, p1, q1, rfl, rfl, rfl, k1, r1⟩ := trodAll_cons r0
  obtain ⟨rfl, rfl, rfl⟩ := trodAll_nil r1
  obtain rfl : args = #[v0, v1] := by cases args; simp_all
  obtain ⟨rfl, rfl⟩ := trodVars_none hV
  have lt0 : ∀ x ∈ p0, x.block < W.heap.size := by obtain ⟨m, hm⟩ := k0; exact DataW.trod_lt m _ _ _ hm
  obtain ⟨a0, n0, c0, rfl⟩ := okWide_slice Try.underlying34 (hval 0 34 v0 rfl rfl)
  obtain ⟨z0, f0⟩ := open_strings (W := W) k0
  have lt1 : ∀ x ∈ p1, x.block < W.heap.size := by obtain ⟨m, hm⟩ := k1; exact DataW.trod_lt m _ _ _ hm
  obtain ⟨s1, rfl, _, _, f1⟩ := open_string Try.underlying9 (hval 1 9 v1 rfl rfl) k1
  clear hA0 hval0
  refine (walk a0 n0 c0 z0 s1 W f0 f1).mono fun e W' ⟨he, bel⟩ => ?_
  subst he
  exact ⟨_, rfl, _, _, _, [], _, [], hW', trodAll_mk1 (shut_bool Try.underlying4 _), (trodAll_cons_mk (Below.trod laidOut (by kernel_rfl) (of_decide_eq_true (by kernel_rfl)) k0 bel lt0) (trodAll_cons_mk (Below.trod laidOut (by kernel_rfl) (of_decide_eq_true (by kernel_rfl)) k1 bel lt1) trodAll_mk0)), rfl, bel.frame _, fun h => by cases h⟩
theorem over : Rows.fnExactDialOneRow.holds Try.pinned (OpenSpec.ofChange Rows.fnExactDialOneSpec) :=
  OpenClaim.holds_of_wide 13 Try.f13 rfl rfl rfl rfl rfl rfl rfl ⟨rfl, rfl, rfl, rfl, rfl⟩ rfl rfl rfl rfl rfl (by kernel_rfl) Try.func13 (by kernel_rfl)
    (of_decide_eq_true (by kernel_rfl)) (by unfold Func.isWrapper; first | (rw [if_pos (by decide +kernel)]; kernel_rfl) | (rw [if_neg (by decide +kernel)]; exact ⟨rfl, rfl⟩))
    (fun os started H enc _ => lifted os started H enc)
theorem proved : Rows.FnExactDialOneSaid := over
#print axioms proved
end Go.Proofs.Ytplalcciodbddaa.exactDialOne
