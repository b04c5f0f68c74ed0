/- FnStepWay returns true for every code. No condition. -/
import Derived.Test.YtiahpaakkijejaaFrame
import Derived.Test.Ytiahpaakkijejaa3q
import Derived.Test.Ytiahpaakkijejaa3sc
import Derived.Test.YtiahpaakkijejaaD3b
import Derived.Test.YtiahpaakkijejaaD3w
namespace Go.Proofs.Ytiahpaakkijejaa.stepWay
open Go.ChangeShapes Go.WideShapes Go.ChangeAt Go.RowKit
set_option linter.unusedSimpArgs false
set_option linter.unusedVariables false
theorem way_bad {l i o : Int} {ys : List Int} (h : wayL l i o = (ys, false)) : ys = [] := by
  unfold wayL at h
  split at h
  · injection h with h1 h2; cases h2
  · injection h with h1 h2; exact h1.symm
theorem way_good {l i o : Int} {ys : List Int} (h : wayL l i o = (ys, true)) : ∃ n st i' o' : Nat, l = n ∧ i = i' ∧ o = o' ∧ NetOk n st ∧ i' < n ∧ o' < n ∧ stepsI n = st ∧ ys = wayN n st i' o' := by
  by_cases hc : (0 < stepsI l ∧ 0 ≤ i ∧ i < l) ∧ 0 ≤ o ∧ o < l
  · rcases lines_cases l with ⟨h1, -⟩ | ⟨n, st, rfl, hN, h1, -⟩
    · omega
    · obtain ⟨i', rfl⟩ : ∃ k : Nat, i = k := ⟨i.toNat, by omega⟩
      obtain ⟨o', rfl⟩ : ∃ k : Nat, o = k := ⟨o.toNat, by omega⟩
      have hi : i' < n := by omega
      have ho : o' < n := by omega
      rw [way_yes hN hi ho h1] at h
      injection h with h1' h2
      exact ⟨n, st, i', o', rfl, rfl, rfl, hN, hi, ho, h1, h1'.symm⟩
  · rw [way_no hc] at h; injection h with h1 h2; cases h2
set_option maxHeartbeats 800000 in
set_option maxRecDepth 100000 in
theorem walk (A : Option Addr) (n c : Nat) (zs : List Int) (w : World) (f : RdL (Value.int .u8) w A n zs ∧ n ≤ c ∧ c ≤ maxLen ∧ ∀ z ∈ zs, (Lit.int .u8 z).wf = true) :
    Calls Try.prog 3 #[.slice A n c] w fun e w' => e = .returned (.bool true) ∧ Below w.heap.size w w' := by
  obtain ⟨hx, hc, hm, hz⟩ := f
  have HZ := Lib.hid (bytes_wf hz)
  clear hz
  by_cases hn : n ≤ 1048576
  · go_enter Try.func3, Try.ntmps3
    go_wp2_with fail
    refine (DrawStepWay_any A n c zs w hx HZ.out hc hn).mono ?_
    rintro x w1 ⟨l, a, q, rfl, HB, b1⟩
    go_wp2_with fail
    refine (impl_StepWay l a q w1).mono ?_
    rintro x w2 ⟨A2, n2, c2, ys, t, rfl, HP, O2, b2⟩
    have B2 := bstep b1 b2
    have hY2 := OwnL.rd O2
    have HLY := hY2.len
    clear O2
    have hn2 : n2 ≤ 1048576 := by
      have h := HP.out
      rw [← HLY.out]
      cases t with
      | false => rw [way_bad h]; simp
      | true => obtain ⟨n', st, i', o', -, -, -, hN, -, -, -, rfl⟩ := way_good h; have := net_bd hN; rw [wayN_len]; omega
    go_wp2_with fail
    refine (spec_StepWay l a q _).mono ?_
    rintro x w3 ⟨A3, n3, c3, ys3, t3, rfl, HQ, O3, b3⟩
    have HE : Hid (ys3 = ys ∧ t3 = t) := by
      have h := HQ.out
      rw [HP.out] at h
      injection h with h1 h2
      exact ⟨h1.symm, h2.symm⟩
    clear HQ
    obtain ⟨rfl, rfl⟩ := HE.out
    clear HE
    have B3 := bstep B2 b3
    have hY3 := hY2.below b3 (Nat.le_refl _)
    have hZ3 := OwnL.rd O3
    clear O3
    obtain rfl : n2 = n3 := by rw [← hZ3.len.out, ← HLY.out]
    go_wp2_with fail
    refine (sameInts_any A2 A3 n2 n2 c2 c3 ys3 ys3 _ hY3 hZ3 (by omega) (by omega)).mono ?_
    rintro x w4 ⟨t4, rfl, h4, m4, rfl⟩
    obtain rfl := h4.out.2 rfl
    clear h4
    cases t3 with
    | false =>
      obtain rfl : n2 = 0 := by rw [← HLY.out, way_bad HP.out]; rfl
      go_wp2_with fail
      refine (alive_any _).mono ?_
      rintro x w6 ⟨rfl, b6⟩
      go_wp2
      go_ret
      exact ⟨rfl, bstep (below_drewN B3 _) b6⟩
    | true =>
      obtain ⟨N, st, i', o', rfl, rfl, rfl, hN, hi, ho, hs, hys⟩ := way_good HP.out
      subst hys
      have hst : st = n2 := by rw [← HLY.out, wayN_len]
      subst hst
      obtain ⟨e1, e2, e3, e4⟩ := net_bd hN
      have HN := Lib.hid hN
      have HS := Lib.hid hs
      clear hN hs
      have hW := hY3.drewN m4
      have BW := below_drewN B3 m4
      obtain ⟨w5, HW5⟩ : ∃ w5, Hid (w5 = w3.drewN m4) := ⟨_, rfl⟩
      rw [← HW5.out] at hW BW
      go_wp2_with fail
      rw [← HW5.out]
      go_loopg [10] N (fun g s wr => ∃ k : Nat, k ≤ N ∧ g = N - k ∧ s = .int .i64 k ∧ Below w5.heap.size w5 wr)
      case atStart => exact ⟨0, Nat.zero_le _, rfl, rfl, Below.refl _ _⟩
      case round =>
        obtain ⟨k, hk, rfl, rfl, hbel⟩ := hrel
        have hWr := hW.below hbel (Nat.le_refl _)
        by_cases hlt : k < N
        · have HYW := Lib.hid (way_yes HN.out hlt ho HS.out)
          go_wp2_with fail
          refine (impl_StepWay N k o' wr).mono ?_
          rintro x w6 ⟨A6, n6, c6, zs6, t6, rfl, HP6, O6, b6⟩
          have HE : Hid (zs6 = wayN N st k o' ∧ t6 = true) := by
            have h := HP6.out
            rw [HYW.out] at h
            injection h with h1 h2
            exact ⟨h1.symm, h2.symm⟩
          clear HP6
          obtain ⟨rfl, rfl⟩ := HE.out
          clear HE
          have B6 := bstep hbel b6
          have hW6 := hW.below B6 (Nat.le_refl _)
          have hV6 := OwnL.rd O6
          clear O6
          obtain rfl : st = n6 := by rw [← hV6.len.out, wayN_len]
          obtain ⟨bl, offl, xl, rfl, HXL, gl⟩ := hV6.at (k := st - 1) (by omega)
          have hxl : xl = (o' : Int) := by
            have h := HXL.out
            rw [wayN_at (by omega)] at h
            injection h with h
            rw [← h, show st - 1 + 1 = st by omega, wayTo_last HN.out hlt ho]
          subst hxl
          have hs1 : ((st : Int) - 1).toNat = st - 1 := by omega
          have z9 : ((o' : Int) != (o' : Int)) = false := by simp
          go_wp2
          go_loopg [13] st (fun g s wr => ∃ j m : Nat, j + 1 ≤ st ∧ g = st - j ∧ s = .int .i64 (j + 1) ∧ wr = w6.drewN m)
          case atStart => exact ⟨0, 0, by omega, rfl, rfl, rfl⟩
          case round =>
            obtain ⟨j, m, hj, rfl, rfl, rfl⟩ := hrel
            by_cases hjl : j + 1 < st
            · obtain ⟨b, off, x0, rfl, HX0, g0⟩ := hW6.at (k := j) (by omega)
              obtain ⟨b', off', x1, hA, HX1, g1⟩ := hW6.at (k := j + 1) hjl
              injection hA with hA; injection hA with hA1 hA2; subst hA1 hA2
              obtain ⟨b', off', y0, hA, HY0, f0⟩ := hV6.at (k := j) (by omega)
              injection hA with hA; injection hA with hA1 hA2; subst hA1 hA2
              obtain ⟨b', off', y1, hA, HY1, f1⟩ := hV6.at (k := j + 1) hjl
              injection hA with hA; injection hA with hA1 hA2; subst hA1 hA2
              have u1 : IntKind.i64.wrap ((j : Int) + 1 - 1) = (j : Int) := by rw [IntWalk.i64_in _ (by omega)]; omega
              by_cases h1 : x0 = y0
              · have hxy : x1 = y1 := by
                  have p0 := HX0.out
                  have p1 := HX1.out
                  have q0 := HY0.out
                  have q1 := HY1.out
                  rw [wayN_at (by omega)] at p0 p1 q0 q1
                  injection p0 with p0; injection p1 with p1; injection q0 with q0; injection q1 with q1
                  rw [← p1, ← q1, way_succ N st i' o' (j + 1), way_succ N st k o' (j + 1), show wayTo N st i' o' (j + 1) = wayTo N st k o' (j + 1) by omega]
                subst h1
                subst hxy
                have z5 : (x0 == x0) = true := by simp
                have z6 : (x1 != x1) = false := by simp
                go_wp2
                go_quiet (fail)
                clear u1
                go_wp2
                go_roundg (st - (j + 1))
                case rel => exact ⟨j + 1, _, by omega, rfl, by go_num, rfl⟩
                case measure => omega
              · have z5 : (x0 == y0) = false := by simp [h1]
                clear h1
                go_wp2
                go_quiet (fail)
                clear u1
                go_wp2
                go_roundg (st - (j + 1))
                case rel => exact ⟨j + 1, _, by omega, rfl, by go_num, rfl⟩
                case measure => omega
            · go_wp2
              go_roundg (N - (k + 1))
              case rel => exact ⟨k + 1, by omega, rfl, by go_num, below_drewN B6 _⟩
              case measure => omega
        · obtain ⟨bl, offl, xl, rfl, HXL, gl⟩ := hWr.at (k := st - 1) (by omega)
          have hxl : xl = (o' : Int) := by
            have h := HXL.out
            rw [wayN_at (by omega)] at h
            injection h with h
            rw [← h, show st - 1 + 1 = st by omega, wayTo_last HN.out hi ho]
          subst hxl
          have BR := bstep BW hbel
          have hs1 : ((st : Int) - 1).toNat = st - 1 := by omega
          have z9 : ((o' : Int) == (o' : Int)) = true := by simp
          rcases HN.out with ⟨rfl, rfl⟩ | ⟨rfl, rfl⟩ | ⟨rfl, rfl⟩
          · have gl0 : wr.cell? ⟨bl, offl, none⟩ = some (iv (o' : Int)) := gl
            clear hs1
            go_wp2
            go_ret
            exact ⟨rfl, BR⟩
          · have gl0 : wr.cell? ⟨bl, offl + 1, none⟩ = some (iv (o' : Int)) := gl
            clear hs1
            go_wp2
            go_ret
            exact ⟨rfl, BR⟩
          · have gl0 : wr.cell? ⟨bl, offl + 2, none⟩ = some (iv (o' : Int)) := gl
            clear hs1
            go_wp2
            go_ret
            exact ⟨rfl, BR⟩
  · go_enter Try.func3, Try.ntmps3
    go_wp2
    go_ret
    exact ⟨rfl, Below.refl _ _⟩
set_option maxRecDepth 100000 in
theorem lifted (os : Os) (started : os.Started) (H : Type) (enc : TypeId × Value → H) :
    ReturnsInHanded {} Try.checked os 3 .any (Rows.fnStepWaySpec.pre6 enc Try.prog Try.f3 Rows.fnStepWayRow.domain false) (Rows.fnStepWaySpec.post enc Try.prog Try.f3 false true false false) := by
  refine returnsInHanded_of_change (C := Try.checked) own started (by kernel_rfl) Try.func3
    (ChangeSpec.witness6 (enc := enc) (C := Try.checked) false ⟨#[], #[.slice none 0 0], []⟩ 8 (by kernel_rfl) (by kernel_rfl) (by kernel_rfl) (by kernel_rfl)) ?_
  intro W base args ds gs before hval0 hW hcnd _
  have hval : ∀ (j : Nat) t v, Try.f3.params[j]? = some t → args[j]? = some v → Value.okWide Try.prog W .any base t v := hval0
  have hW' := hW
  obtain ⟨p, q, hA0, hV, rfl, hfz, hnd⟩ := hW
  have hA : DataW.TrodAll enc Try.prog W 0 (fun _ => true) true Try.f3.params.toList args.toList ds p := hA0
  rw [Try.params3] at hA hval
  obtain ⟨v0, vs0, d0, ds0, p0, q0, hargs, rfl, rfl, k0, r0⟩ := trodAll_cons hA
  obtain ⟨rfl, rfl, rfl⟩ := trodAll_nil r0
  obtain rfl : args = #[v0] := by cases args; simp_all
  obtain ⟨rfl, rfl⟩ := trodVars_none hV
  have lt0 : ∀ x ∈ p0, x.block < W.heap.size := by obtain ⟨m, hm⟩ := k0; exact DataW.trod_lt m _ _ _ hm
  obtain ⟨a0, n0, c0, rfl⟩ := okWide_slice Try.underlying22 (hval 0 22 v0 rfl rfl)
  obtain ⟨z0, f0⟩ := open_bytes (W := W) k0
  clear hA0 hval0
  refine (walk a0 n0 c0 z0 W f0).mono fun e W' ⟨he, bel⟩ => ?_
  subst he
  exact ⟨_, rfl, _, _, _, [], _, [], hW', trodAll_mk1 (shut_bool Try.underlying4 _), (trodAll_cons_mk (Below.trod laidOut (by kernel_rfl) (of_decide_eq_true (by kernel_rfl)) k0 bel lt0) trodAll_mk0), rfl, bel.frame _, fun h => by cases h⟩
theorem closed : joinedFacts Try.pinned.checked.prog 3 Try.f3 Rows.fnStepWaySpec Rows.fnStepWayRow = true := by
  unfold joinedFacts
  repeat' (with_reducible refine Bool.and_eq_true_iff.2 ⟨?_, ?_⟩)
  · kernel_rfl
  · exact laidOut
  · kernel_rfl
  · kernel_rfl
  · kernel_rfl
  · kernel_rfl
  · kernel_rfl
  · kernel_rfl
  · kernel_rfl
  · kernel_rfl
  · kernel_rfl
  · kernel_rfl
  · kernel_rfl
  · kernel_rfl
  · kernel_rfl
  · kernel_rfl
  · kernel_rfl
  · kernel_rfl
  · kernel_rfl
  · kernel_rfl
  · kernel_rfl
  · kernel_rfl
  · kernel_rfl
  · kernel_rfl
  · kernel_rfl
  · exact heavy.1
  · exact heavy.2.1
  · exact heavy.2.2
  · kernel_rfl
  · kernel_rfl
  · kernel_rfl
  · kernel_rfl
theorem over : Rows.fnStepWayRow.holds Try.pinned (OpenSpec.ofChange Rows.fnStepWaySpec) :=
  OpenClaim.holds_of_wide 3 Try.f3 rfl rfl rfl rfl rfl rfl rfl ⟨rfl, rfl, rfl, rfl, rfl⟩ rfl rfl rfl rfl rfl (by kernel_rfl) Try.func3 closed
    (of_decide_eq_true (by kernel_rfl)) (by unfold Func.isWrapper; first | (rw [if_pos (by decide +kernel)]; kernel_rfl) | (rw [if_neg (by decide +kernel)]; exact ⟨rfl, rfl⟩))
    (fun os started H enc _ => lifted os started H enc)
theorem proved : Rows.FnStepWaySaid := over
#print axioms proved
end Go.Proofs.Ytiahpaakkijejaa.stepWay
