/- FrameOk of the reference. Condition: tables of at most 1048576 numbers. -/
import Derived.Test.Ythfjlellaojdmaa5o
namespace Go.Proofs.Ythfjlellaojdmaa
open Go.RowKit
set_option linter.unusedSimpArgs false
set_option linter.unusedVariables false
/-- Nothing is below 0 in the first k rows, and in the first j numbers of row k. -/
def NnTo (n : Nat) (G : Nat → Nat → Int) (k : Nat) : Prop := ∀ a b, a < k → b < n → 0 ≤ G a b
def NnRow (G : Nat → Nat → Int) (k j : Nat) : Prop := ∀ b, b < j → 0 ≤ G k b
theorem NnTo.succ {n : Nat} {G : Nat → Nat → Int} {k : Nat} (h : NnTo n G k) (h2 : NnRow G k n) : NnTo n G (k + 1) := fun a b ha hb => by
  rcases (by omega : a < k ∨ a = k) with h1 | rfl
  · exact h a b h1 hb
  · exact h2 b hb
theorem NnRow.succ {G : Nat → Nat → Int} {k j : Nat} (h : NnRow G k j) (h2 : 0 ≤ G k j) : NnRow G k (j + 1) := fun b hb => by
  rcases (by omega : b < j ∨ b = j) with h1 | rfl
  · exact h b h1
  · exact h2
set_option maxRecDepth 100000 in
set_option maxHeartbeats 4000000 in
theorem spec_FrameOk (A : Option Addr) (n c : Nat) (t : List (List Int)) (A' : Option Addr) (p c' : Nat) (fr : List (List Int)) (w : World) (hx : RdT w A n t) (hy : RdT w A' p fr) (hc : n ≤ c) (hc' : p ≤ c') (hs : SmT t) (hs' : SmT fr) :
    Calls Try.prog 12 #[.slice A n c, .slice A' p c'] w (RetM (FrOk t fr) w) := by
  have HL := hx.len
  have HL' := hy.len
  have hp : p ≤ 1048576 := by rw [← HL'.out]; exact hs'.1
  have HS := Lib.hid hs; clear hs
  have HS' := Lib.hid hs'; clear hs'
  by_cases hT : TrafOk t
  · by_cases hp36 : 36 < p
    · have HV : Hid (¬ FrOk t fr) := fun h => by have h1 := h.2.1; have h2 := HL'.out; omega
      have HT := Lib.hid hT; clear hT
      go_enter Try.func12, Try.ntmps12
      go_wp2_with (go_at_call 23; refine (retB_is (b := true) ⟨fun _ => HT.out, fun _ => rfl⟩ (spec_TrafficValid A n c t _ hx HS.out)).mono ?_; rintro e w1 ⟨rfl, m1, rfl⟩)
      go_ret
      exact RetM.no HV.out (below_drewN (Below.refl _ _) _)
    · have h6 : n ≤ 6 := by rw [← HL.out]; exact hT.six
      have HB : Hid (∀ i j, 0 ≤ fOf t i j ∧ fOf t i j ≤ 6) := fun i j => hT.bd i j
      have HV : Hid (FrOk t fr ↔ FrameOkL n (fOf t) fr) := ⟨fun h => by have := h.2; rwa [HL.out] at this, fun h => ⟨hT, by rw [HL.out]; exact h⟩⟩
      have HLL : Hid (leftL t fr = tabF n (leftF (fOf t) fr)) := by show _ = _; rw [leftL_yes hT, HL.out]
      have HT := Lib.hid hT; clear hT
      obtain ⟨F, hF⟩ : ∃ F, fOf t = F := ⟨_, rfl⟩
      rw [hF] at HB HV HLL
      clear hF
      go_enter Try.func12, Try.ntmps12
      go_wp2_with (go_at_call 23; refine (retB_is (b := true) ⟨fun _ => HT.out, fun _ => rfl⟩ (spec_TrafficValid A n c t _ hx HS.out)).mono ?_; rintro e w1 ⟨rfl, m1, rfl⟩)
      go_loopg [5] p (fun g i wr => ∃ s m : Nat, s ≤ p ∧ g = p - s ∧ i = .int .i64 s ∧ Hid (SlotsTo n fr s) ∧ wr = w.drewN m)
      case atStart => exact ⟨0, _, Nat.zero_le _, rfl, rfl, SlotsTo.zero _ _, rfl⟩
      case round =>
        obtain ⟨s, m, hs, rfl, rfl, HN, rfl⟩ := hrel
        by_cases hlt : s < p
        · obtain ⟨b, off, Ak, nk, ck, r, rfl, HX, hc0, hrd, hnk⟩ := hy.at hlt
          have hrl := hrd.len
          by_cases hne : nk = n
          · subst hne
            go_wp2
            go_loopg [6] nk (fun g i wr => ∃ k q : Nat, k ≤ nk ∧ g = nk - k ∧ i = .int .i64 k ∧ Hid (SlotTo nk r k) ∧ wr = w.drewN q)
            case atStart => exact ⟨0, m, Nat.zero_le _, rfl, rfl, SlotTo.zero _ _, rfl⟩
            case round =>
              obtain ⟨k, q, hk, rfl, rfl, HI, rfl⟩ := hrel
              by_cases hkl : k < nk
              · obtain ⟨b2, off2, x, rfl, HX2, hcx⟩ := hrd.at hkl
                have HNO : Hid (¬ (-1 ≤ x ∧ x < nk ∧ (0 ≤ x → x ∉ r.take k)) → ¬ FrOk t fr) := fun h hf => h ((HV.out.1 hf).2.1 r (List.mem_of_getElem? HX.out) |>.2 k x HX2.out)
                have hk0 : (0 : Int) ≤ (k : Int) := Int.natCast_nonneg _
                have hk1 : (k : Int) < (nk : Int) := by omega
                have HWR : Hid (IntKind.i64.wrap ((nk : Int) - 1) = (nk : Int) - 1) := IntWalk.i64_in _ (by omega)
                have hkc : (k : Int) ≤ (ck : Int) := by omega
                cases hin : inB x (-1) ((nk : Int) - 1) with
                | false =>
                  have HIN := Lib.hid hin; clear hin
                  go_wp2
                  have hwr := HWR.out
                  go_quiet ((go_at_call 42; exact quiet_add (l1_is HIN.out)))
                  clear hwr
                  go_wp2
                  go_ret
                  exact RetM.no (HNO.out (fun h => by have h1 : inB x (-1) ((nk : Int) - 1) = true := (by simp [inB]; omega); rw [HIN.out] at h1; cases h1)) (below_drewN (below_drewN (Below.refl _ _) _) _)
                | true =>
                  have HIN := Lib.hid hin; clear hin
                  have HIB : Hid (-1 ≤ x ∧ x < nk) := by have h1 := HIN.out; simp [inB] at h1; exact ⟨by omega, by omega⟩
                  by_cases hx0 : 0 ≤ x
                  · cases hm : decide (x ∈ r.take k) with
                    | true =>
                      have HM := Lib.hid hm; clear hm
                      have H0 := Lib.hid hx0
                      go_wp2
                      have hwr := HWR.out
                      go_quiet (first
                        | (go_at_call 42; exact quiet_add (l1_is HIN.out))
                        | (go_at_call 43; exact quiet_add (has_is (hrd.take (Nat.le_of_lt hkl)) (by omega) HM.out)))
                      clear hwr
                      go_wp2
                      go_ret
                      exact RetM.no (HNO.out (fun h => h.2.2 H0.out (of_decide_eq_true HM.out))) (below_drewN (below_drewN (Below.refl _ _) _) _)
                    | false =>
                      have HM := Lib.hid hm; clear hm
                      go_wp2
                      have hwr := HWR.out
                      go_quiet (first
                        | (go_at_call 42; exact quiet_add (l1_is HIN.out))
                        | (go_at_call 43; exact quiet_add (has_is (hrd.take (Nat.le_of_lt hkl)) (by omega) HM.out)))
                      clear hwr
                      go_wp2
                      go_roundg (nk - (k + 1))
                      case rel => exact ⟨k + 1, q + nq, by omega, rfl, by go_num, HI.out.succ HX2.out ⟨HIB.out.1, HIB.out.2, fun _ => of_decide_eq_false HM.out⟩, by simp⟩
                      case measure => omega
                  · have hx0z : decide (0 ≤ x) = false := by simpa using hx0
                    have H0 := Lib.hid hx0
                    go_wp2
                    have hwr := HWR.out
                    go_quiet ((go_at_call 42; exact quiet_add (l1_is HIN.out)))
                    clear hwr
                    go_wp2
                    go_roundg (nk - (k + 1))
                    case rel => exact ⟨k + 1, q + nq, by omega, rfl, by go_num, HI.out.succ HX2.out ⟨HIB.out.1, HIB.out.2, fun h => by have h2 := H0.out; omega⟩, by simp⟩
                    case measure => omega
              · go_wp2
                go_roundg (p - (s + 1))
                case rel =>
                  obtain rfl : k = nk := by omega
                  exact ⟨s + 1, q, by omega, rfl, by go_num, HN.out.succ HX.out (HI.out.all hrl.out (Nat.le_refl _)), rfl⟩
                case measure => omega
          · have hnez : ((nk : Int) != (n : Int)) = true := by simp; omega
            go_wp2
            go_ret
            exact RetM.no (fun hf => hne (by have := ((HV.out.1 hf).2.1 r (List.mem_of_getElem? HX.out)).1; have := hrl.out; omega)) (below_drewN (Below.refl _ _) _)
        · go_wp2_with fail
          refine (spec_FrameLeft A n c t A' p c' fr _ (hx.drewN _) (hy.drewN _) hc hc' HS.out HS'.out).mono ?_
          rintro e w5 ⟨A5, n5, c5, rfl, h5, b5⟩
          rw [HLL.out] at h5
          have hn5 := h5.len.out
          rw [tabF_len] at hn5; subst hn5
          have hL := h5.rd
          have B5 := bstep (below_drewN (Below.refl w.heap.size w) m) b5
          clear h5 b5
          have HNN : Hid (SlotsTo n fr p) := by obtain rfl : s = p := by omega
                                                exact HN.out
          go_wp2
          go_loopg [8] n (fun g i wr => ∃ k q : Nat, k ≤ n ∧ g = n - k ∧ i = .int .i64 k ∧ Hid (NnTo n (leftF F fr) k) ∧ wr = w5.drewN q)
          case atStart => exact ⟨0, 0, Nat.zero_le _, rfl, rfl, fun a b h => absurd h (Nat.not_lt_zero _), rfl⟩
          case round =>
            obtain ⟨k, q, hk, rfl, rfl, HK, rfl⟩ := hrel
            by_cases hkl : k < n
            · obtain ⟨b, off, Ak, ck, rfl, hck, hrk, hnck⟩ := hL.atF hkl
              go_wp2
              go_loopg [9] n (fun g i wr => ∃ j q : Nat, j ≤ n ∧ g = n - j ∧ i = .int .i64 j ∧ Hid (NnRow (leftF F fr) k j) ∧ wr = w5.drewN q)
              case atStart => exact ⟨0, q, Nat.zero_le _, rfl, rfl, fun b h => absurd h (Nat.not_lt_zero _), rfl⟩
              case round =>
                obtain ⟨j, q, hj, rfl, rfl, HJ, rfl⟩ := hrel
                by_cases hjl : j < n
                · obtain ⟨b2, off2, x, rfl, HX2, hcx⟩ := hrk.atF hjl
                  by_cases hx0 : x < 0
                  · have H0 := Lib.hid hx0
                    go_wp2
                    go_ret
                    exact RetM.no (fun hf => by have h1 := (HV.out.1 hf).2.2 k j hkl hjl; have h2 := HX2.out; unfold leftF at h2; have h3 := H0.out; omega) (below_drewN B5 _)
                  · have hx0z : decide (x < 0) = false := by simp; omega
                    have H0 : Hid (0 ≤ x) := by show _ ≤ _; omega
                    go_wp2
                    go_roundg (n - (j + 1))
                    case rel => exact ⟨j + 1, q, by omega, rfl, by go_num, HJ.out.succ (by rw [HX2.out]; exact H0.out), rfl⟩
                    case measure => omega
                · go_wp2
                  go_roundg (n - (k + 1))
                  case rel =>
                    obtain rfl : j = n := by omega
                    exact ⟨k + 1, q, by omega, rfl, by go_num, HK.out.succ HJ.out, rfl⟩
                  case measure => omega
            · go_wp2
              go_ret
              obtain rfl : k = n := by omega
              refine RetM.yes (HV.out.2 ⟨by have := HL'.out; omega, HNN.out.all (by rw [HL'.out]; exact Nat.le_refl _), fun i j hi hj => ?_⟩) (below_drewN B5 _)
              have h1 := HK.out i j hi hj
              unfold leftF at h1; omega
  · have HV : Hid (¬ FrOk t fr) := fun h => hT h.1
    have HT := Lib.hid hT; clear hT
    go_enter Try.func12, Try.ntmps12
    go_wp2_with (go_at_call 23; refine (retB_is (b := false) ⟨fun h => by simp at h, fun h => absurd h HT.out⟩ (spec_TrafficValid A n c t _ hx HS.out)).mono ?_; rintro e w1 ⟨rfl, m1, rfl⟩)
    go_ret
    exact RetM.no HV.out (below_drewN (Below.refl _ _) _)
end Go.Proofs.Ythfjlellaojdmaa
