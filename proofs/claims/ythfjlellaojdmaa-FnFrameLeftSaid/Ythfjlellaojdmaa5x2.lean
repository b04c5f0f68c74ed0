/- l1Cover and l5Match of the reference. Condition: at most 6 inputs, numbers from 0 to 1000. -/
import Derived.Test.Ythfjlellaojdmaa5x
namespace Go.Proofs.Ythfjlellaojdmaa
open Go.RowKit
set_option linter.unusedSimpArgs false
set_option linter.unusedVariables false
def CovTo (P : Nat → Nat → Bool) (p : List Int) (k : Nat) : Prop := ∀ (i : Nat) x, i < k → p[i]? = some x → P i x.toNat = true
theorem CovTo.succ {P : Nat → Nat → Bool} {p : List Int} {k : Nat} {x : Int} (h : CovTo P p k) (hx : p[k]? = some x) (h0 : P k x.toNat = true) : CovTo P p (k + 1) := by
  intro i y hi hy
  rcases (by omega : i < k ∨ i = k) with h1 | rfl
  · exact h i y h1 hy
  · rw [hx] at hy; injection hy with hy; subst hy; exact h0
theorem spec_l1Cover (A : Option Addr) (n c : Nat) (BB : Nat → Nat → Int) (A' : Option Addr) (c' : Nat) (p : List Int) (w : World) (hx : RdT w A n (tabF n BB)) (hy : RdL iv w A' n p) (hn : n ≤ 6) (hb : Bd n BB 0 1000) (hp : IsPm n p) :
    Calls Try.prog 65 #[.slice A n c, .slice A' n c'] w (RetB (CoverP (posP BB) p) w) := by
  have HB := Lib.hid hb; clear hb
  have HP := Lib.hid hp; clear hp
  go_enter Try.func65, Try.ntmps65
  go_wp2
  go_loopg [5] n (fun g i wr => ∃ k m : Nat, k ≤ n ∧ g = n - k ∧ i = .int .i64 k ∧ Hid (CovTo (posP BB) p k) ∧ wr = w.drewN m)
  case atStart => exact ⟨0, 0, Nat.zero_le _, rfl, rfl, fun i x h => absurd h (Nat.not_lt_zero _), rfl⟩
  case round =>
    obtain ⟨k, m, hk, rfl, rfl, HC, rfl⟩ := hrel
    by_cases hlt : k < n
    · obtain ⟨v, hvn, hv0⟩ := pm_nat HP.out hlt
      obtain ⟨b, off, x, rfl, HX, hcx⟩ := hy.at hlt
      have hxv : x = (v : Int) := by have := HX.out; rw [hv0] at this; injection this with this; exact this.symm
      subst hxv
      obtain ⟨b1, off1, b2, off2, ck, y, rfl, hc1, hc2, HY, hcy⟩ := hx.atFF hlt hvn
      have hyb : 0 ≤ y ∧ y ≤ 1000 := by rw [← HY.out]; exact HB.out k v hlt hvn
      obtain ⟨hy0, hy1⟩ := hyb
      have hv1 : (0 : Int) ≤ (v : Int) := Int.natCast_nonneg _
      have hv2 : (v : Int) < (n : Int) := by omega
      have hk1 : (0 : Int) ≤ (k : Int) := Int.natCast_nonneg _
      have hk2 : (k : Int) < (n : Int) := by omega
      clear hv0
      by_cases hy : y = 0
      · have HN : Hid (¬ CoverP (posP BB) p) := fun h => by
          have h1 := h k _ HX.out
          unfold posP at h1
          rw [Int.toNat_natCast, HY.out] at h1
          simp at h1; omega
        subst hy
        go_wp2_with fail
        go_quiet (fail)
        go_wp2
        go_ret
        first | exact RetB.no HN.out _ | exact RetB.no2 HN.out _ _
      · have hyz : (y == 0) = false := by simpa using hy
        have HY1 : Hid (posP BB k (v : Int).toNat = true) := by show _ = _; unfold posP; rw [Int.toNat_natCast, HY.out]; simp; omega
        go_wp2_with fail
        go_quiet (fail)
        go_wp2
        go_roundg (n - (k + 1))
        case rel => exact ⟨k + 1, _, by omega, rfl, by go_num, HC.out.succ HX.out HY1.out, rfl⟩
        case measure => omega
    · go_wp2
      go_ret
      exact RetB.yes (fun i x hx => HC.out i x (by have h1 := (List.getElem?_eq_some_iff.1 hx).1; have h2 := HP.out.1; omega) hx) _
set_option maxHeartbeats 1000000 in
theorem spec_l5Match (A : Option Addr) (n c : Nat) (BB : Nat → Nat → Int) (p0 : List Int) (w : World) (hx : RdT w A n (tabF n BB)) (hn : n ≤ 6) (hb : Bd n BB 0 1000) (hg : GreedyP n (posP BB) p0) :
    Calls Try.prog 53 #[.slice A n c] w fun e w' => ∃ A' c', e = .returned (.slice A' n c') ∧ OwnL iv w' w.heap.size 3 A' n c' p0 ∧ Below w.heap.size w w' := by
  have HB := Lib.hid hb; clear hb
  have HG := Lib.hid hg; clear hg
  have hf : factN n ≤ 720 := by
    obtain ⟨v0, v1, v2, v3, v4, v5, v6⟩ := fact_vals
    rcases (by omega : n = 0 ∨ n = 1 ∨ n = 2 ∨ n = 3 ∨ n = 4 ∨ n = 5 ∨ n = 6) with rfl | rfl | rfl | rfl | rfl | rfl | rfl <;> omega
  obtain ⟨FN, hFN⟩ : ∃ f, factN n = f := ⟨_, rfl⟩
  rw [hFN] at hf
  have HFN := Lib.hid hFN; clear hFN
  go_enter Try.func53, Try.ntmps53
  go_wp2
  go_loopg [3] FN (fun g s3 wr => ∃ r : Nat, r ≤ FN ∧ g = FN - r ∧ s3 = .int .i64 r ∧ Hid (∀ r', r' < r → ¬ CoverP (posP BB) (permL n (upto n) r')) ∧ Below w.heap.size w wr)
  case atStart => exact ⟨0, Nat.zero_le _, rfl, rfl, fun r' h => absurd h (Nat.not_lt_zero _), Below.refl _ _⟩
  case round =>
    obtain ⟨r, hr, rfl, rfl, HN, hbel⟩ := hrel
    have hz := hbel.size
    go_wp2_with fail
    refine (spec_l1Factorial n _ hn).mono ?_
    rintro e w2 ⟨rfl, m2, rfl⟩
    rw [HFN.out]
    by_cases hlt : r < FN
    · go_wp2_with fail
      refine (spec_PermOf n r _ hn (by rw [HFN.out]; exact hlt)).mono ?_
      rintro e w3 ⟨A3, c3, rfl, h3, b3⟩
      have hb3 : Below w.heap.size w w3 := bstep (below_drewN hbel m2) b3
      have h3' : OwnL iv w3 w.heap.size 3 A3 n c3 (permL n (upto n) r) := h3.mono hz
      have HPM : Hid (IsPm n (permL n (upto n) r)) := permL_isPm (by rw [HFN.out]; exact hlt)
      have HFG : Hid (CoverP (posP BB) (permL n (upto n) r) → GreedyP n (posP BB) (permL n (upto n) r)) := fun hc => first_greedy (by rw [HFN.out]; exact hlt) hc HN.out
      obtain ⟨q, hq⟩ : ∃ q, permL n (upto n) r = q := ⟨_, rfl⟩
      have HQ := Lib.hid hq
      rw [hq] at h3' HPM HFG
      clear hq h3
      by_cases hcov : CoverP (posP BB) q
      · have HE : Hid (q = p0) := greedy_uniq (HFG.out hcov) HG.out
        have HCV := Lib.hid hcov; clear hcov
        go_wp2_with fail
        refine (retB_is (b := true) ⟨fun _ => HCV.out, fun _ => rfl⟩ (spec_l1Cover A n c BB A3 c3 q w3 (hx.below hb3 (Nat.le_refl _)) h3'.rd hn HB.out HPM.out)).mono ?_
        rintro e w4 ⟨rfl, m4, rfl⟩
        go_wp2
        go_ret
        exact ⟨A3, c3, rfl, by rw [← HE.out]; exact h3'.drewN m4, below_drewN hb3 _⟩
      · have HCV := Lib.hid hcov; clear hcov
        go_wp2_with fail
        refine (retB_is (b := false) ⟨fun h => by simp at h, fun h => absurd h HCV.out⟩ (spec_l1Cover A n c BB A3 c3 q w3 (hx.below hb3 (Nat.le_refl _)) h3'.rd hn HB.out HPM.out)).mono ?_
        rintro e w4 ⟨rfl, m4, rfl⟩
        go_wp2
        go_roundg (FN - (r + 1))
        case rel => exact ⟨r + 1, by omega, rfl, by go_num, fun r' hr' => by
          rcases (by omega : r' < r ∨ r' = r) with h1 | rfl
          · exact HN.out r' h1
          · rw [HQ.out]; exact HCV.out, below_drewN hb3 _⟩
        case measure => omega
    · exfalso
      have h1 := no_first (n := n) (P := posP BB) (fun r' hr' => HN.out r' (by rw [HFN.out] at hr'; omega))
      exact h1 ⟨p0, by simpa using HG.out.1, by simpa using HG.out.2.1⟩
end Go.Proofs.Ythfjlellaojdmaa
