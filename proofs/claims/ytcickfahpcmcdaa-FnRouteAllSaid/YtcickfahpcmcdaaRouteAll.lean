/- FnRouteAll returns true for every code. No condition. -/
import Derived.Test.YtcickfahpcmcdaaFrame
import Derived.Test.YtcickfahpcmcdaaPerm
import Derived.Test.YtcickfahpcmcdaaAsk3
import Derived.Test.Ytcickfahpcmcdaa4sc
import Derived.Test.Ytcickfahpcmcdaa4ro
import Derived.Test.Ytcickfahpcmcdaa4rs
namespace Go.Proofs.Ytcickfahpcmcdaa.routeAll
open Go.ChangeShapes Go.WideShapes Go.ChangeAt Go.RowKit
set_option linter.unusedSimpArgs false
set_option linter.unusedVariables false
set_option maxHeartbeats 4000000 in
set_option maxRecDepth 100000 in
theorem walk (A : Option Addr) (n c : Nat) (zs : List Int) (w : World) (f : RdL (Value.int .u8) w A n zs ∧ n ≤ c ∧ c ≤ maxLen ∧ ∀ z ∈ zs, (Lit.int .u8 z).wf = true) :
    Calls Try.prog 11 #[.slice A n c] w fun e w' => e = .returned (.bool true) ∧ Below w.heap.size w w' := by
  obtain ⟨hx, hc, hm, hz⟩ := f
  have HZ := Lib.hid (bytes_wf hz)
  clear hz
  by_cases hn : n ≤ 1048576
  · go_enter Try.func11, Try.ntmps11
    go_wp2_with fail
    refine (DrawRouteAll_any A n c zs w hx HZ.out hc hn).mono ?_
    rintro x w1 ⟨o, e, m, A1, n1, c1, xs, rfl, HB, hn1, O1, b1⟩
    have S1 := ShAt.new w1 o e m
    have hX := (O1.alloc (.cells #[.int .i64 o, .int .i64 e, .int .i64 m] 24)).rd
    have hcap := O1.cap.1
    have HLX := hX.len
    have B1 := bbox b1 b1.size (.cells #[.int .i64 o, .int .i64 e, .int .i64 m] 24)
    clear O1
    obtain ⟨s0, s1, s2, -⟩ := S1.cells
    go_wp2_with fail
    refine (impl_RouteAll o e m A1 n1 c1 xs _ hX hcap (by omega)).mono ?_
    rintro x w2 ⟨A2, n2, c2, ys, t, rfl, HP2, O2, b2⟩
    have S2 := S1.below b2
    have B2 := bstep B1 b2
    have hX2 := hX.below b2 (Nat.le_refl _)
    clear s0 s1 s2
    obtain ⟨s0, s1, s2, -⟩ := S2.cells
    go_wp2_with fail
    refine (spec_RouteAll o e m A1 n1 c1 xs _ hX2 hcap (by omega)).mono ?_
    rintro x w3 ⟨A3, n3, c3, ys', t', rfl, HP3, O3, b3⟩
    obtain ⟨rfl, rfl⟩ : ys = ys' ∧ t = t' := by have h := HP2.out.symm.trans HP3.out; injection h with h1 h2; exact ⟨h1, h2⟩
    have hl3 : n3 = n2 := by rw [← (OwnC.len O3).out, ← (OwnC.len O2).out]
    subst hl3
    have S3 := S2.below b3
    have B3 := bstep B2 b3
    have hX3 := hX2.below b3 (Nat.le_refl _)
    have hY2 := RdM.below (OwnC.rd O2) b3 (Nat.le_refl _)
    have hY3 := OwnC.rd O3
    have hcapY := (OwnM.cap O2).1
    have hl2 : n3 ≤ 1048576 := by rw [← (OwnC.len O2).out]; have := route_len o e m xs (by rw [HLX.out]; omega); rw [HP2.out] at this; exact this
    clear s0 s1 s2
    go_wp2_with fail
    refine (sameCalls_any A2 A3 n3 n3 c2 c3 ys ys _ hY2 hY3 hl2 hl2).mono ?_
    rintro x w4 ⟨v4, rfl, hv4, m4, rfl⟩
    obtain rfl := hv4.out.2 rfl
    clear hv4 O2 O3 hY3
    have S4 := S3.drewN m4
    have B4 := below_drewN B3 m4
    have hX4 := hX3.drewN m4
    have hY4 := hY2.drewN m4
    by_cases hr : RouteOk o e m xs
    · have HR := Lib.hid hr; clear hr
      obtain ⟨i1, i2, i3⟩ := route_inv HR.out xs.length (Nat.le_refl _)
      have hyt : ys = routeN o e m xs xs.length ∧ t = true := by have h := HP2.out.symm.trans (route_yes HR.out); injection h with h1 h2; exact ⟨h1, h2⟩
      obtain ⟨hys, rfl⟩ := hyt
      rw [← hys] at i1 i2 i3
      have HI1 := Lib.hid i1
      have HI3 := Lib.hid i3
      have hnn : n3 = n1 := by rw [← hY4.len.out, i2, HLX.out]
      clear i1 i2 i3 hys HP2 HP3
      subst hnn
      go_wp2
      go_loopg [9] n3 (fun g s9 wr => ∃ k mm : Nat, k ≤ n3 ∧ g = n3 - k ∧ s9 = .int .i64 k ∧ wr = w3.drewN mm)
      case atStart => exact ⟨0, m4, Nat.zero_le _, rfl, rfl, rfl⟩
      case round =>
        obtain ⟨k, mm, hk, rfl, rfl, rfl⟩ := hrel
        by_cases hlt : k < n3
        · obtain ⟨bk, offk, xk, rfl, HXK, gx⟩ := hX3.at hlt
          obtain ⟨bj, offj, yk, rfl, HYK, gk0, gk1, gk2⟩ := RdC.at hY2 (k := k) hlt
          have hio := HI3.out k yk HYK.out
          have e0 : yk.i = (k : Int) := hio.1
          have e1 : yk.o = xk := by have h := hio.2; rw [HXK.out] at h; injection h with h; exact h.symm
          rw [e0] at gk0
          rw [e1] at gk1
          clear e0 e1 hio
          have q1 : ((k : Int) != (k : Int)) = false := by simp
          have q2 : (xk != xk) = false := by simp
          have hk0 : (0 : Int) ≤ (k : Int) := Int.natCast_nonneg _
          have hk1 : (k : Int) < (n3 : Int) := by omega
          go_wp2
          go_quiet (fail)
          go_wp2
          go_roundg (n3 - (k + 1))
          case rel => exact ⟨k + 1, _, by omega, rfl, by go_num, rfl⟩
          case measure => omega
        · have S8 := S4.drewN mm
          obtain ⟨s0, s1, s2, -⟩ := (show ShAt (w3.drewN mm) w1.heap.size o e m from S4).cells
          go_wp2_with fail
          refine (impl_CallsValid o e m A2 n3 c2 ys _ (show RdC (w3.drewN mm) A2 n3 ys from hY4) hcapY hl2).mono ?_
          rintro x w9 ⟨v9, rfl, hv9, b9⟩
          obtain rfl := hv9.out.2 HI1.out
          clear hv9 s0 s1 s2
          go_wp2
          go_ret
          exact ⟨rfl, bstep (below_drewN B3 mm) b9⟩
    · have hyt : ys = [] ∧ t = false := by have h := HP2.out.symm.trans (route_no hr); injection h with h1 h2; exact ⟨h1, h2⟩
      obtain ⟨rfl, rfl⟩ := hyt
      obtain rfl : n3 = 0 := by have h := hY4.len.out; simp at h; exact h.symm
      clear hr HP2 HP3
      go_wp2_with fail
      refine (alive_any _).mono ?_
      rintro x w9 ⟨rfl, b9⟩
      go_wp2
      go_ret
      exact ⟨rfl, bstep B4 b9⟩
  · go_enter Try.func11, Try.ntmps11
    go_wp2
    go_ret
    exact ⟨rfl, Below.refl _ _⟩
set_option maxRecDepth 100000 in
theorem lifted (os : Os) (started : os.Started) (H : Type) (enc : TypeId × Value → H) :
    ReturnsInHanded {} Try.checked os 11 .any (Rows.fnRouteAllSpec.pre6 enc Try.prog Try.f11 Rows.fnRouteAllRow.domain false) (Rows.fnRouteAllSpec.post enc Try.prog Try.f11 false true false false) := by
  refine returnsInHanded_of_change (C := Try.checked) own started (by kernel_rfl) Try.func11
    (ChangeSpec.witness6 (enc := enc) (C := Try.checked) false ⟨#[], #[.slice none 0 0], []⟩ 8 (by kernel_rfl) (by kernel_rfl) (by kernel_rfl) (by kernel_rfl)) ?_
  intro W base args ds gs before hval0 hW hcnd _
  have hval : ∀ (j : Nat) t v, Try.f11.params[j]? = some t → args[j]? = some v → Value.okWide Try.prog W .any base t v := hval0
  have hW' := hW
  obtain ⟨p, q, hA0, hV, rfl, hfz, hnd⟩ := hW
  have hA : DataW.TrodAll enc Try.prog W 0 (fun _ => true) true Try.f11.params.toList args.toList ds p := hA0
  rw [Try.params11] at hA hval
  obtain ⟨v0, vs0, d0, ds0, p0, q0, hargs, rfl, rfl, k0, r0⟩ := trodAll_cons hA
  obtain ⟨rfl, rfl, rfl⟩ := trodAll_nil r0
  obtain rfl : args = #[v0] := by cases args; simp_all
  obtain ⟨rfl, rfl⟩ := trodVars_none hV
  have lt0 : ∀ x ∈ p0, x.block < W.heap.size := by obtain ⟨m, hm⟩ := k0; exact DataW.trod_lt m _ _ _ hm
  obtain ⟨a0, n0, c0, rfl⟩ := okWide_slice Try.underlying22 (hval 0 22 v0 rfl rfl)
  obtain ⟨z0, f0⟩ := open_bytes (W := W) k0
  clear hA0 hval0
  refine (walk a0 n0 c0 z0 W f0).mono fun e W' ⟨he, bel⟩ => ?_
  subst he
  exact ⟨_, rfl, _, _, _, [], _, [], hW', trodAll_mk1 (shut_bool Try.underlying4 _), (trodAll_cons_mk (Below.trod laidOut (by kernel_rfl) (of_decide_eq_true (by kernel_rfl)) k0 bel lt0) trodAll_mk0), rfl, bel.frame _, fun h => by cases h⟩
theorem closed : joinedFacts Try.pinned.checked.prog 11 Try.f11 Rows.fnRouteAllSpec Rows.fnRouteAllRow = true := by
  unfold joinedFacts
  repeat' (with_reducible refine Bool.and_eq_true_iff.2 ⟨?_, ?_⟩)
  · kernel_rfl
  · exact laidOut
  · kernel_rfl
  · kernel_rfl
  · kernel_rfl
  · kernel_rfl
  · kernel_rfl
  · kernel_rfl
  · kernel_rfl
  · kernel_rfl
  · kernel_rfl
  · kernel_rfl
  · kernel_rfl
  · kernel_rfl
  · kernel_rfl
  · kernel_rfl
  · kernel_rfl
  · kernel_rfl
  · kernel_rfl
  · kernel_rfl
  · kernel_rfl
  · kernel_rfl
  · kernel_rfl
  · kernel_rfl
  · kernel_rfl
  · exact heavy.1
  · exact heavy.2.1
  · exact heavy.2.2
  · kernel_rfl
  · kernel_rfl
  · kernel_rfl
  · kernel_rfl
theorem over : Rows.fnRouteAllRow.holds Try.pinned (OpenSpec.ofChange Rows.fnRouteAllSpec) :=
  OpenClaim.holds_of_wide 11 Try.f11 rfl rfl rfl rfl rfl rfl rfl ⟨rfl, rfl, rfl, rfl, rfl⟩ rfl rfl rfl rfl rfl (by kernel_rfl) Try.func11 closed
    (of_decide_eq_true (by kernel_rfl)) (by unfold Func.isWrapper; first | (rw [if_pos (by decide +kernel)]; kernel_rfl) | (rw [if_neg (by decide +kernel)]; exact ⟨rfl, rfl⟩))
    (fun os started H enc _ => lifted os started H enc)
theorem proved : Rows.FnRouteAllSaid := over
#print axioms proved
end Go.Proofs.Ytcickfahpcmcdaa.routeAll
