/- FnStepClashes returns true for every code. No condition. -/
import Derived.Test.YtiahpaakkijejaaFrame
import Derived.Test.Ytiahpaakkijejaa3q
import Derived.Test.Ytiahpaakkijejaa3sc
import Derived.Test.YtiahpaakkijejaaD3b
namespace Go.Proofs.Ytiahpaakkijejaa.stepClashes
open Go.ChangeShapes Go.WideShapes Go.ChangeAt Go.RowKit
set_option linter.unusedSimpArgs false
set_option linter.unusedVariables false
set_option maxHeartbeats 4000000 in
set_option maxRecDepth 100000 in
theorem walk (A : Option Addr) (n c : Nat) (zs : List Int) (w : World) (f : RdL (Value.int .u8) w A n zs ∧ n ≤ c ∧ c ≤ maxLen ∧ ∀ z ∈ zs, (Lit.int .u8 z).wf = true) :
    Calls Try.prog 8 #[.slice A n c] w fun e w' => e = .returned (.bool true) ∧ Below w.heap.size w w' := by
  obtain ⟨hx, hc, hm, hz⟩ := f
  have HZ := Lib.hid (bytes_wf hz)
  clear hz
  by_cases hn : n ≤ 1048576
  · go_enter Try.func8, Try.ntmps8
    go_wp2_with fail
    refine (DrawStepClashes_any A n c zs w hx HZ.out hc hn).mono ?_
    rintro x w1 ⟨A1, n1, c1, xs, rfl, hn1, O1, b1⟩
    have hX := OwnL.rd O1
    have hcap := (OwnL.cap O1).1
    have HLX := hX.len
    clear O1
    obtain ⟨V, HV⟩ : ∃ V, Hid (clashL xs = V) := ⟨_, rfl⟩
    have z1 : (V != V) = false := by simp
    go_wp2_with fail
    refine (impl_StepClashes A1 n1 c1 xs w1 hX hcap (by omega)).mono ?_
    rintro x w2 ⟨rfl, b2⟩
    rw [HV.out]
    have B2 := bstep b1 b2
    have hX2 := hX.below b2 (Nat.le_refl _)
    go_wp2_with fail
    refine (spec_StepClashes A1 n1 c1 xs _ hX2 hcap (by omega)).mono ?_
    rintro x w3 ⟨rfl, b3⟩
    rw [HV.out]
    have B3 := bstep B2 b3
    have hX3 := hX2.below b3 (Nat.le_refl _)
    by_cases hv : V < 0
    · obtain rfl : V = -1 := by have := clash_neg (p := xs) (by rw [HV.out]; exact hv); rw [HV.out] at this; exact this
      go_wp2_with fail
      refine (alive_any _).mono ?_
      rintro x w6 ⟨rfl, b6⟩
      go_wp2
      go_ret
      exact ⟨rfl, bstep B3 b6⟩
    · have hv0 : (0 : Int) ≤ V := by omega
      obtain ⟨hnet, hP, -, hv28, hmul, hsh⟩ := clash_facts HLX.out HV.out hv
      have HP := Lib.hid hP
      have HS := Lib.hid hsh
      clear hP hsh
      have hlo : 2 ≤ n1 := by omega
      obtain ⟨K, hK, hK0, hK1⟩ : ∃ K : Int, (n1 : Int) * ((n1 : Int) - 1) = K ∧ 0 ≤ K ∧ K ≤ 56 := ⟨_, rfl, by rcases hnet with rfl | rfl | rfl <;> decide, by rcases hnet with rfl | rfl | rfl <;> decide⟩
      rw [hK] at hmul
      have e2 : IntKind.i64.wrap ((n1 : Int) * ((n1 : Int) - 1)) = K := by rw [hK]; exact IntWalk.i64_in _ (by omega)
      have z4 : decide (2 * V ≤ K) = true := decide_eq_true hmul
      clear hnet
      clear z1
      obtain ⟨b0, off0, y0, rfl, HY, g0⟩ := hX3.at (k := 0) (by omega)
      have hy := HP.out 0 y0 HY.out
      rw [HLX.out] at hy
      obtain ⟨hy0, hy1, -⟩ := hy
      have g0' := g0
      rw [Nat.add_zero] at g0'
      have hpos : (0 : Int) < (n1 : Int) := by omega
      have hpos2 : 0 < n1 := by omega
      go_wp2_with fail
      go_loopg [5, 6] n1 (fun g s5 s6 wr => ∃ (k m : Nat) (t : Bool), k ≤ n1 ∧ g = n1 - k ∧ s6 = .int .i64 k ∧ s5 = .bool t ∧ Hid (t = true → ∀ j, j < k → pF xs j = (pF xs 0 + j) % n1) ∧ wr = w3.drewN m)
      case atStart => exact ⟨0, 0, true, Nat.zero_le _, rfl, rfl, rfl, (fun _ j hj => absurd hj (Nat.not_lt_zero _)), rfl⟩
      case round =>
        obtain ⟨k, m, t, hk, rfl, rfl, rfl, HT, rfl⟩ := hrel
        by_cases hlt : k < n1
        · obtain ⟨b', off', x, hA, HX, gx⟩ := hX3.at hlt
          injection hA with hA; injection hA with hA1 hA2; subst hA1 hA2
          cases t with
          | false =>
            go_wp2
            go_quiet (fail)
            go_wp2
            go_roundg (n1 - (k + 1))
            case rel => exact ⟨k + 1, _, false, by omega, rfl, by go_num, rfl, (fun h => by cases h), rfl⟩
            case measure => omega
          | true =>
            have hx1 := HP.out k x HX.out
            rw [HLX.out] at hx1
            obtain ⟨hx0, hx1, -⟩ := hx1
            by_cases he : x = (y0 + k) % n1
            · have z5 : (x == (y0 + (k : Int)) % (n1 : Int)) = true := by simp [he]
              have HE : Hid (pF xs k = (pF xs 0 + k) % n1) := by
                show _ = _
                have e1 := pF_at HX.out hx0
                have e3 := pF_at HY.out hy0
                rw [e1, e3] at he
                exact_mod_cast he
              clear he
              go_wp2
              go_quiet (fail)
              go_wp2
              go_roundg (n1 - (k + 1))
              case rel => exact ⟨k + 1, _, true, by omega, rfl, by go_num, rfl, (fun _ j hj => by rcases (by omega : j < k ∨ j = k) with h | rfl; exact HT.out (by trivial) j h; exact HE.out), rfl⟩
              case measure => omega
            · have z5 : (x == (y0 + (k : Int)) % (n1 : Int)) = false := by simp [he]
              clear he
              go_wp2
              go_quiet (fail)
              go_wp2
              go_roundg (n1 - (k + 1))
              case rel => exact ⟨k + 1, _, false, by omega, rfl, by go_num, rfl, (fun h => by cases h), rfl⟩
              case measure => omega
        · cases t with
          | false =>
            go_wp2
            go_ret
            exact ⟨rfl, below_drewN B3 _⟩
          | true =>
            obtain rfl : V = 0 := HS.out (fun j hj => HT.out (by trivial) j (by omega))
            go_wp2
            go_ret
            exact ⟨rfl, below_drewN B3 _⟩
  · go_enter Try.func8, Try.ntmps8
    go_wp2
    go_ret
    exact ⟨rfl, Below.refl _ _⟩
set_option maxRecDepth 100000 in
theorem lifted (os : Os) (started : os.Started) (H : Type) (enc : TypeId × Value → H) :
    ReturnsInHanded {} Try.checked os 8 .any (Rows.fnStepClashesSpec.pre6 enc Try.prog Try.f8 Rows.fnStepClashesRow.domain false) (Rows.fnStepClashesSpec.post enc Try.prog Try.f8 false true false false) := by
  refine returnsInHanded_of_change (C := Try.checked) own started (by kernel_rfl) Try.func8
    (ChangeSpec.witness6 (enc := enc) (C := Try.checked) false ⟨#[], #[.slice none 0 0], []⟩ 8 (by kernel_rfl) (by kernel_rfl) (by kernel_rfl) (by kernel_rfl)) ?_
  intro W base args ds gs before hval0 hW hcnd _
  have hval : ∀ (j : Nat) t v, Try.f8.params[j]? = some t → args[j]? = some v → Value.okWide Try.prog W .any base t v := hval0
  have hW' := hW
  obtain ⟨p, q, hA0, hV, rfl, hfz, hnd⟩ := hW
  have hA : DataW.TrodAll enc Try.prog W 0 (fun _ => true) true Try.f8.params.toList args.toList ds p := hA0
  rw [Try.params8] at hA hval
  obtain ⟨v0, vs0, d0, ds0, p0, q0, hargs, rfl, rfl, k0, r0⟩ := trodAll_cons hA
  obtain ⟨rfl, rfl, rfl⟩ := trodAll_nil r0
  obtain rfl : args = #[v0] := by cases args; simp_all
  obtain ⟨rfl, rfl⟩ := trodVars_none hV
  have lt0 : ∀ x ∈ p0, x.block < W.heap.size := by obtain ⟨m, hm⟩ := k0; exact DataW.trod_lt m _ _ _ hm
  obtain ⟨a0, n0, c0, rfl⟩ := okWide_slice Try.underlying22 (hval 0 22 v0 rfl rfl)
  obtain ⟨z0, f0⟩ := open_bytes (W := W) k0
  clear hA0 hval0
  refine (walk a0 n0 c0 z0 W f0).mono fun e W' ⟨he, bel⟩ => ?_
  subst he
  exact ⟨_, rfl, _, _, _, [], _, [], hW', trodAll_mk1 (shut_bool Try.underlying4 _), (trodAll_cons_mk (Below.trod laidOut (by kernel_rfl) (of_decide_eq_true (by kernel_rfl)) k0 bel lt0) trodAll_mk0), rfl, bel.frame _, fun h => by cases h⟩
theorem closed : joinedFacts Try.pinned.checked.prog 8 Try.f8 Rows.fnStepClashesSpec Rows.fnStepClashesRow = true := by
  unfold joinedFacts
  repeat' (with_reducible refine Bool.and_eq_true_iff.2 ⟨?_, ?_⟩)
  · kernel_rfl
  · exact laidOut
  · kernel_rfl
  · kernel_rfl
  · kernel_rfl
  · kernel_rfl
  · kernel_rfl
  · kernel_rfl
  · kernel_rfl
  · kernel_rfl
  · kernel_rfl
  · kernel_rfl
  · kernel_rfl
  · kernel_rfl
  · kernel_rfl
  · kernel_rfl
  · kernel_rfl
  · kernel_rfl
  · kernel_rfl
  · kernel_rfl
  · kernel_rfl
  · kernel_rfl
  · kernel_rfl
  · kernel_rfl
  · kernel_rfl
  · exact heavy.1
  · exact heavy.2.1
  · exact heavy.2.2
  · kernel_rfl
  · kernel_rfl
  · kernel_rfl
  · kernel_rfl
theorem over : Rows.fnStepClashesRow.holds Try.pinned (OpenSpec.ofChange Rows.fnStepClashesSpec) :=
  OpenClaim.holds_of_wide 8 Try.f8 rfl rfl rfl rfl rfl rfl rfl ⟨rfl, rfl, rfl, rfl, rfl⟩ rfl rfl rfl rfl rfl (by kernel_rfl) Try.func8 closed
    (of_decide_eq_true (by kernel_rfl)) (by unfold Func.isWrapper; first | (rw [if_pos (by decide +kernel)]; kernel_rfl) | (rw [if_neg (by decide +kernel)]; exact ⟨rfl, rfl⟩))
    (fun os started H enc _ => lifted os started H enc)
theorem proved : Rows.FnStepClashesSaid := over
#print axioms proved
end Go.Proofs.Ytiahpaakkijejaa.stepClashes
