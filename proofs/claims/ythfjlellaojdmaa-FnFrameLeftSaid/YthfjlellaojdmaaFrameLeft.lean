/- FnFrameLeft returns true for every code. No condition. -/
import Derived.Test.YthfjlellaojdmaaFrame
import Derived.Test.YthfjlellaojdmaaPerm
import Derived.Test.Ythfjlellaojdmaa5z
import Derived.Test.Ythfjlellaojdmaa5s
import Derived.Test.Ythfjlellaojdmaa5o2
import Derived.Test.Ythfjlellaojdmaa5yf
namespace Go.Proofs.Ythfjlellaojdmaa.frameLeft
open Go.ChangeShapes Go.WideShapes Go.ChangeAt Go.RowKit
set_option linter.unusedSimpArgs false
set_option linter.unusedVariables false
theorem smt_take {rows : List (List Int)} (h : SmT rows) (k : Nat) : SmT (rows.take k) :=
  ⟨Nat.le_trans (by rw [List.length_take]; omega) h.1, Nat.le_trans (flat_le rows k) h.2⟩
theorem left_none {t : List (List Int)} (h : TrafOk t) : leftL t [] = t := by
  rw [leftL_yes h]
  exact (tabF_congr fun i j _ _ => by unfold leftF; rw [cnt_nil]; omega).trans h.tab.symm
set_option maxHeartbeats 4000000 in
set_option maxRecDepth 100000 in
theorem walk (A : Option Addr) (n c : Nat) (zs : List Int) (w : World) (f : RdL (Value.int .u8) w A n zs ∧ n ≤ c ∧ c ≤ maxLen ∧ ∀ z ∈ zs, (Lit.int .u8 z).wf = true) :
    Calls Try.prog 9 #[.slice A n c] w fun e w' => e = .returned (.bool true) ∧ Below w.heap.size w w' := by
  obtain ⟨hx, hc, hm, hz⟩ := f
  have HZ := Lib.hid (bytes_wf hz)
  clear hz
  by_cases hn : n ≤ 1048576
  · go_enter Try.func9, Try.ntmps9
    go_wp2_with fail
    refine (DrawFrameLeft_any A n c zs w hx HZ.out hc hn).mono ?_
    rintro x w1 ⟨A1, n1, c1, t, A2, p, c2, fr, rfl, hT, hc1, hsm, hF, hc2, hsf, b1⟩
    have HL := hT.len
    have HLF := hF.len
    have HSM := Lib.hid hsm; clear hsm
    have HSF := Lib.hid hsf; clear hsf
    have HS2 : Hid (SmT (leftL t fr)) := left_sm HSM.out HSF.out
    go_wp2_with fail
    refine (impl_FrameLeft A1 n1 c1 t A2 p c2 fr w1 hT hF hc1 hc2 HSM.out HSF.out).mono ?_
    rintro x w2 ⟨A3, n3, c3, rfl, hX, b2⟩
    have B2 := bstep b1 b2
    have HL2 := hX.len
    have hX2 := hX.rd
    have hT2 := hT.below b2 (Nat.le_refl _)
    have hF2 := hF.below b2 (Nat.le_refl _)
    clear hT hF b1 b2 hX
    go_wp2_with fail
    refine (spec_FrameLeft A1 n1 c1 t A2 p c2 fr w2 hT2 hF2 hc1 hc2 HSM.out HSF.out).mono ?_
    rintro x w3 ⟨A4, n4, c4, rfl, hY, b3⟩
    have B3 := bstep B2 b3
    have hT3 := hT2.below b3 (Nat.le_refl _)
    have hF3 := hF2.below b3 (Nat.le_refl _)
    have hX3 := hX2.below b3 (Nat.le_refl _)
    go_wp2_with fail
    refine (retB_is (b := true) ⟨fun _ => rfl, fun _ => rfl⟩ (sameLists_any A3 A4 n3 n4 c3 c4 _ _ w3 hX3 hY.rd HS2.out HS2.out)).mono ?_
    rintro x w4 ⟨rfl, m4, rfl⟩
    have hX4 := hX3.drewN m4
    have hT4 := hT3.drewN m4
    have hF4 := hF3.drewN m4
    have B4 := below_drewN B3 m4
    clear hT2 hF2 hX2 hT3 hF3 hX3 hY b3 B2 B3
    obtain ⟨W4, hW4⟩ : ∃ V, w3.drewN m4 = V := ⟨_, rfl⟩
    rw [hW4] at hX4 hT4 hF4 B4 ⊢
    clear hW4
    by_cases hTO : TrafOk t
    · have HTO := Lib.hid hTO
      go_wp2_with fail
      refine (retB_is (b := true) ⟨fun _ => HTO.out, fun _ => rfl⟩ (spec_TrafficValid A1 n1 c1 t _ hT4 HSM.out)).mono ?_
      rintro x w5 ⟨rfl, m5, rfl⟩
      have h6 : n1 ≤ 6 := by rw [← HL.out]; exact hTO.six
      have HLN : Hid (leftL t [] = t) := left_none hTO
      have hn3 : n3 = n1 := by rw [← HL2.out, leftL_yes hTO, tabF_len]; exact HL.out
      subst hn3
      obtain ⟨G, hG⟩ : ∃ G, leftF (fOf t) fr = G := ⟨_, rfl⟩
      have hLL : leftL t fr = tabF n3 G := by rw [leftL_yes hTO, HL.out, hG]
      rw [hLL] at hX4
      have HPB : Hid ((fr.length : Int) ≤ 1048576) := by have := HSF.out.1; show (_ : Int) ≤ _; omega
      have hX := hX4.drewN m5
      have hT := hT4.drewN m5
      have hF := hF4.drewN m5
      have B := below_drewN B4 m5
      clear hX4 hT4 hF4 B4 hLL hTO
      obtain ⟨W, hW⟩ : ∃ V, W4.drewN m5 = V := ⟨_, rfl⟩
      rw [hW] at hX hT hF B ⊢
      clear hW
      have hpb : p ≤ 1048576 := by rw [← HLF.out]; exact HSF.out.1
      by_cases hp0 : p = 0
      · subst hp0
        have hfr : fr = [] := List.eq_nil_of_length_eq_zero HLF.out
        have HCT : Hid (∀ i j, cnt (fr.take 0) i j ≤ cnt fr i j ∧ cnt fr i j ≤ cnt (fr.take 0) i j + 1) := fun i j => by rw [hfr]; simp [cnt]
        have HSQ : Hid (SmT (fr.take 0)) := smt_take HSF.out 0
        clear hfr
        obtain ⟨H, hH⟩ : ∃ H, leftF (fOf t) (fr.take 0) = H := ⟨_, rfl⟩
        have HLO : Hid (leftL t (fr.take 0) = tabF n3 H) := by show _ = _; rw [leftL_yes HTO.out, HL.out, hH]
        have HGH : Hid (∀ i j, -1048576 ≤ G i j ∧ G i j ≤ 6 ∧ G i j ≤ H i j ∧ H i j ≤ G i j + 1) := fun i j => by
          rw [← hG, ← hH]
          have h1 := HTO.out.bd i j
          have h2 := cnt_len fr i j
          have h3 := cnt_nonneg fr i j
          have h4 := HPB.out
          have h5 := HCT.out i j
          unfold leftF
          omega
        clear hG hH HCT
        go_wp2_with fail
        refine (impl_FrameLeft A1 n3 c1 t A2 0 c2 (fr.take 0) W hT (hF.take (Nat.le_refl _)) hc1 (by omega) HSM.out HSQ.out).mono ?_
        rintro x w6 ⟨A6, n6, c6, rfl, hZ, b6⟩
        rw [HLO.out] at hZ
        have hn6 : n6 = n3 := by rw [← hZ.len.out]; exact tabF_len _ _
        subst hn6
        have hRO := hZ.rd
        have hRL := hX.below b6 (Nat.le_refl _)
        have hT6 := hT.below b6 (Nat.le_refl _)
        have B6 := bstep B b6
        clear hZ hX hT hF B b6 HLO HSQ
        have hnn : ((n6 : Int) != (n6 : Int)) = false := by simp
        go_wp2
        go_loopg [7, 8] n6 (fun g i j wr => ∃ k m : Nat, k ≤ n6 ∧ g = n6 - k ∧ i = .int .i64 k ∧ wr = w6.drewN m)
        case atStart => exact ⟨0, 0, Nat.zero_le _, rfl, rfl, rfl⟩
        case round =>
          obtain ⟨k, m, hk, rfl, rfl, rfl⟩ := hrel
          by_cases hlt : k < n6
          · obtain ⟨b1, off1, Ak1, ck1, hA1, hcL, hrL, hnL⟩ := hRL.atF hlt
            obtain ⟨b2, off2, Ak2, ck2, hA2, hcO, hrO, hnO⟩ := hRO.atF hlt
            subst hA1 hA2
            have hk0 : (0 : Int) ≤ (k : Int) := Int.natCast_nonneg _
            have hk1 : (k : Int) < (n6 : Int) := by omega
            go_wp2
            go_quiet (fail)
            go_wp2
            go_loopg [8] n6 (fun g j wr => ∃ q m : Nat, q ≤ n6 ∧ g = n6 - q ∧ j = .int .i64 q ∧ wr = w6.drewN m)
            case atStart => exact ⟨0, m + nq, Nat.zero_le _, rfl, rfl, by simp⟩
            case round =>
              obtain ⟨q, m, hq, rfl, rfl, rfl⟩ := hrel
              by_cases hql : q < n6
              · obtain ⟨b3, off3, x, rfl, HX, hcx⟩ := hrL.atF hql
                obtain ⟨b4, off4, y, rfl, HY, hcy⟩ := hrO.atF hql
                have hxy : -1048576 ≤ x ∧ x ≤ 6 ∧ x ≤ y ∧ y ≤ x + 1 := by rw [← HX.out, ← HY.out]; exact HGH.out k q
                obtain ⟨hx0, hx1, hx2, hx3⟩ := hxy
                have hd1 : decide (y < x) = false := by simp; omega
                have hd2 : decide (x + 1 < y) = false := by simp; omega
                have hw1 : IntKind.i64.wrap (x + 1) = x + 1 := IntWalk.i64_in _ (by omega)
                have hj0 : (0 : Int) ≤ (q : Int) := Int.natCast_nonneg _
                have hj1 : (q : Int) < (n6 : Int) := by omega
                go_wp2
                go_quiet (fail)
                go_wp2
                go_roundg (n6 - (q + 1))
                case rel => exact ⟨q + 1, m + nq, by omega, rfl, by go_num, by simp⟩
                case measure => omega
              · go_wp2
                go_roundg (n6 - (k + 1))
                case rel => exact ⟨k + 1, m, by omega, rfl, by go_num, rfl⟩
                case measure => omega
          · go_wp2_with fail
            refine (impl_FrameLeft A1 n6 c1 t none 0 0 [] _ (hT6.drewN _) RdT.nil hc1 (Nat.le_refl _) HSM.out SmT.nil).mono ?_
            rintro x w7 ⟨A7, n7, c7, rfl, hZ, b7⟩
            rw [HLN.out] at hZ
            have hT7 := (hT6.drewN m).below b7 (Nat.le_refl _)
            have B7 := bstep (below_drewN B6 m) b7
            go_wp2_with fail
            refine (retB_is (b := true) ⟨fun _ => rfl, fun _ => rfl⟩ (sameLists_any A7 A1 n7 n6 c7 c1 t t w7 hZ.rd hT7 HSM.out HSM.out)).mono ?_
            rintro x w8 ⟨rfl, m8, rfl⟩
            go_wp2
            go_ret
            exact ⟨rfl, below_drewN B7 _⟩
      · obtain ⟨p, rfl⟩ : ∃ p', p = p' + 1 := ⟨p - 1, by omega⟩
        obtain ⟨bf, off, Akf, nkf, ckf, rf, rfl, HXF, hcf, hrdf, hnkf⟩ := hF.at (k := p) (by omega)
        have HCT : Hid (∀ i j, cnt (fr.take p) i j ≤ cnt fr i j ∧ cnt fr i j ≤ cnt (fr.take p) i j + 1) := fun i j => by
          have h1 : fr = fr.take p ++ [rf] := by rw [← take_snoc HXF.out, List.take_of_length_le (by rw [HLF.out]; exact Nat.le_refl _)]
          have h2 : cnt fr i j = cnt (fr.take p) i j + hit i j rf := by
            have h3 := cnt_snoc (fr.take p) rf i j
            rw [← h1] at h3; exact h3
          have h3 := hit_bd i j rf
          omega
        have HSQ : Hid (SmT (fr.take p)) := smt_take HSF.out p
        clear HXF hcf hrdf hnkf
        have hmx : max (p : Int) 0 = p := Int.max_eq_left (Int.natCast_nonneg _)
        obtain ⟨H, hH⟩ : ∃ H, leftF (fOf t) (fr.take p) = H := ⟨_, rfl⟩
        have HLO : Hid (leftL t (fr.take p) = tabF n3 H) := by show _ = _; rw [leftL_yes HTO.out, HL.out, hH]
        have HGH : Hid (∀ i j, -1048576 ≤ G i j ∧ G i j ≤ 6 ∧ G i j ≤ H i j ∧ H i j ≤ G i j + 1) := fun i j => by
          rw [← hG, ← hH]
          have h1 := HTO.out.bd i j
          have h2 := cnt_len fr i j
          have h3 := cnt_nonneg fr i j
          have h4 := HPB.out
          have h5 := HCT.out i j
          unfold leftF
          omega
        clear hG hH HCT
        go_wp2_with fail
        refine (impl_FrameLeft A1 n3 c1 t _ p c2 (fr.take p) W hT (hF.take (Nat.le_succ _)) hc1 (by omega) HSM.out HSQ.out).mono ?_
        rintro x w6 ⟨A6, n6, c6, rfl, hZ, b6⟩
        rw [HLO.out] at hZ
        have hn6 : n6 = n3 := by rw [← hZ.len.out]; exact tabF_len _ _
        subst hn6
        have hRO := hZ.rd
        have hRL := hX.below b6 (Nat.le_refl _)
        have hT6 := hT.below b6 (Nat.le_refl _)
        have B6 := bstep B b6
        clear hZ hX hT hF B b6 HLO HSQ
        have hnn : ((n6 : Int) != (n6 : Int)) = false := by simp
        go_wp2
        go_loopg [7, 8] n6 (fun g i j wr => ∃ k m : Nat, k ≤ n6 ∧ g = n6 - k ∧ i = .int .i64 k ∧ wr = w6.drewN m)
        case atStart => exact ⟨0, 0, Nat.zero_le _, rfl, rfl, rfl⟩
        case round =>
          obtain ⟨k, m, hk, rfl, rfl, rfl⟩ := hrel
          by_cases hlt : k < n6
          · obtain ⟨b1, off1, Ak1, ck1, hA1, hcL, hrL, hnL⟩ := hRL.atF hlt
            obtain ⟨b2, off2, Ak2, ck2, hA2, hcO, hrO, hnO⟩ := hRO.atF hlt
            subst hA1 hA2
            have hk0 : (0 : Int) ≤ (k : Int) := Int.natCast_nonneg _
            have hk1 : (k : Int) < (n6 : Int) := by omega
            go_wp2
            go_quiet (fail)
            go_wp2
            go_loopg [8] n6 (fun g j wr => ∃ q m : Nat, q ≤ n6 ∧ g = n6 - q ∧ j = .int .i64 q ∧ wr = w6.drewN m)
            case atStart => exact ⟨0, m + nq, Nat.zero_le _, rfl, rfl, by simp⟩
            case round =>
              obtain ⟨q, m, hq, rfl, rfl, rfl⟩ := hrel
              by_cases hql : q < n6
              · obtain ⟨b3, off3, x, rfl, HX, hcx⟩ := hrL.atF hql
                obtain ⟨b4, off4, y, rfl, HY, hcy⟩ := hrO.atF hql
                have hxy : -1048576 ≤ x ∧ x ≤ 6 ∧ x ≤ y ∧ y ≤ x + 1 := by rw [← HX.out, ← HY.out]; exact HGH.out k q
                obtain ⟨hx0, hx1, hx2, hx3⟩ := hxy
                have hd1 : decide (y < x) = false := by simp; omega
                have hd2 : decide (x + 1 < y) = false := by simp; omega
                have hw1 : IntKind.i64.wrap (x + 1) = x + 1 := IntWalk.i64_in _ (by omega)
                have hj0 : (0 : Int) ≤ (q : Int) := Int.natCast_nonneg _
                have hj1 : (q : Int) < (n6 : Int) := by omega
                go_wp2
                go_quiet (fail)
                go_wp2
                go_roundg (n6 - (q + 1))
                case rel => exact ⟨q + 1, m + nq, by omega, rfl, by go_num, by simp⟩
                case measure => omega
              · go_wp2
                go_roundg (n6 - (k + 1))
                case rel => exact ⟨k + 1, m, by omega, rfl, by go_num, rfl⟩
                case measure => omega
          · go_wp2_with fail
            refine (impl_FrameLeft A1 n6 c1 t none 0 0 [] _ (hT6.drewN _) RdT.nil hc1 (Nat.le_refl _) HSM.out SmT.nil).mono ?_
            rintro x w7 ⟨A7, n7, c7, rfl, hZ, b7⟩
            rw [HLN.out] at hZ
            have hT7 := (hT6.drewN m).below b7 (Nat.le_refl _)
            have B7 := bstep (below_drewN B6 m) b7
            go_wp2_with fail
            refine (retB_is (b := true) ⟨fun _ => rfl, fun _ => rfl⟩ (sameLists_any A7 A1 n7 n6 c7 c1 t t w7 hZ.rd hT7 HSM.out HSM.out)).mono ?_
            rintro x w8 ⟨rfl, m8, rfl⟩
            go_wp2
            go_ret
            exact ⟨rfl, below_drewN B7 _⟩
    · have HTO := Lib.hid hTO
      have hn3 : n3 = 0 := by rw [← HL2.out, leftL_no hTO]; rfl
      subst hn3
      go_wp2_with fail
      refine (retB_is (b := false) ⟨fun h => by simp at h, fun h => absurd h HTO.out⟩ (spec_TrafficValid A1 n1 c1 t _ hT4 HSM.out)).mono ?_
      rintro x w5 ⟨rfl, m5, rfl⟩
      go_wp2_with fail
      refine (alive_any _).mono ?_
      rintro x w6 ⟨rfl, b6⟩
      go_wp2
      go_ret
      exact ⟨rfl, bstep (below_drewN B4 _) b6⟩
  · go_enter Try.func9, Try.ntmps9
    go_wp2
    go_ret
    exact ⟨rfl, Below.refl _ _⟩
set_option maxRecDepth 100000 in
theorem lifted (os : Os) (started : os.Started) (H : Type) (enc : TypeId × Value → H) :
    ReturnsInHanded {} Try.checked os 9 .any (Rows.fnFrameLeftSpec.pre6 enc Try.prog Try.f9 Rows.fnFrameLeftRow.domain false) (Rows.fnFrameLeftSpec.post enc Try.prog Try.f9 false true false false) := by
  refine returnsInHanded_of_change (C := Try.checked) own started (by kernel_rfl) Try.func9
    (ChangeSpec.witness6 (enc := enc) (C := Try.checked) false ⟨#[], #[.slice none 0 0], []⟩ 8 (by kernel_rfl) (by kernel_rfl) (by kernel_rfl) (by kernel_rfl)) ?_
  intro W base args ds gs before hval0 hW hcnd _
  have hval : ∀ (j : Nat) t v, Try.f9.params[j]? = some t → args[j]? = some v → Value.okWide Try.prog W .any base t v := hval0
  have hW' := hW
  obtain ⟨p, q, hA0, hV, rfl, hfz, hnd⟩ := hW
  have hA : DataW.TrodAll enc Try.prog W 0 (fun _ => true) true Try.f9.params.toList args.toList ds p := hA0
  rw [Try.params9] at hA hval
  obtain ⟨v0, vs0, d0, ds0, p0, q0, hargs, rfl, rfl, k0, r0⟩ := trodAll_cons hA
  obtain ⟨rfl, rfl, rfl⟩ := trodAll_nil r0
  obtain rfl : args = #[v0] := by cases args; simp_all
  obtain ⟨rfl, rfl⟩ := trodVars_none hV
  have lt0 : ∀ x ∈ p0, x.block < W.heap.size := by obtain ⟨m, hm⟩ := k0; exact DataW.trod_lt m _ _ _ hm
  obtain ⟨a0, n0, c0, rfl⟩ := okWide_slice Try.underlying22 (hval 0 22 v0 rfl rfl)
  obtain ⟨z0, f0⟩ := open_bytes (W := W) k0
  clear hA0 hval0
  refine (walk a0 n0 c0 z0 W f0).mono fun e W' ⟨he, bel⟩ => ?_
  subst he
  exact ⟨_, rfl, _, _, _, [], _, [], hW', trodAll_mk1 (shut_bool Try.underlying4 _), (trodAll_cons_mk (Below.trod laidOut (by kernel_rfl) (of_decide_eq_true (by kernel_rfl)) k0 bel lt0) trodAll_mk0), rfl, bel.frame _, fun h => by cases h⟩
theorem closed : joinedFacts Try.pinned.checked.prog 9 Try.f9 Rows.fnFrameLeftSpec Rows.fnFrameLeftRow = true := by
  unfold joinedFacts
  repeat' (with_reducible refine Bool.and_eq_true_iff.2 ⟨?_, ?_⟩)
  · kernel_rfl
  · exact laidOut
  · kernel_rfl
  · kernel_rfl
  · kernel_rfl
  · kernel_rfl
  · kernel_rfl
  · kernel_rfl
  · kernel_rfl
  · kernel_rfl
  · kernel_rfl
  · kernel_rfl
  · kernel_rfl
  · kernel_rfl
  · kernel_rfl
  · kernel_rfl
  · kernel_rfl
  · kernel_rfl
  · kernel_rfl
  · kernel_rfl
  · kernel_rfl
  · kernel_rfl
  · kernel_rfl
  · kernel_rfl
  · kernel_rfl
  · exact heavy.1
  · exact heavy.2.1
  · exact heavy.2.2
  · kernel_rfl
  · kernel_rfl
  · kernel_rfl
  · kernel_rfl
theorem over : Rows.fnFrameLeftRow.holds Try.pinned (OpenSpec.ofChange Rows.fnFrameLeftSpec) :=
  OpenClaim.holds_of_wide 9 Try.f9 rfl rfl rfl rfl rfl rfl rfl ⟨rfl, rfl, rfl, rfl, rfl⟩ rfl rfl rfl rfl rfl (by kernel_rfl) Try.func9 closed
    (of_decide_eq_true (by kernel_rfl)) (by unfold Func.isWrapper; first | (rw [if_pos (by decide +kernel)]; kernel_rfl) | (rw [if_neg (by decide +kernel)]; exact ⟨rfl, rfl⟩))
    (fun os started H enc _ => lifted os started H enc)
theorem proved : Rows.FnFrameLeftSaid := over
#print axioms proved
end Go.Proofs.Ythfjlellaojdmaa.frameLeft
