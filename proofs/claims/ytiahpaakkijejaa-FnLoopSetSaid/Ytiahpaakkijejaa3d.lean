/- waysOf, waysMeet and StepClashes of both. Condition: at most 1048576 numbers. -/
import Derived.Test.Ytiahpaakkijejaa3b
import Derived.Test.YtiahpaakkijejaaTab
namespace Go.Proofs.Ytiahpaakkijejaa
open Go.RowKit
set_option linter.unusedSimpArgs false
set_option linter.unusedVariables false
/-- The permutation of a list as a function. -/
def pF (p : List Int) (i : Nat) : Nat := (p.getD i 0).toNat
theorem pF_at {p : List Int} {i : Nat} {x : Int} (h : p[i]? = some x) (h0 : 0 ≤ x) : x = (pF p i : Int) := by
  unfold pF; rw [List.getD_eq_getElem?_getD, h, Option.getD_some]; omega
theorem pF_some {p : List Int} (h : PermOk p) {i : Nat} (hi : i < p.length) : p[i]? = some (pF p i : Int) ∧ pF p i < p.length := by
  have hx : p[i]? = some p[i] := List.getElem?_eq_getElem hi
  have hb := h i _ hx
  have := pF_at hx hb.1
  exact ⟨by rw [hx, this], by omega⟩
theorem pF_inj {p : List Int} (h : PermOk p) {i j : Nat} (hi : i < p.length) (hj : j < p.length) (he : pF p i = pF p j) : i = j := by
  have h1 := (pF_some h hi).1
  have h2 := (pF_some h hj).1
  have hn := h.nodup
  unfold List.Nodup at hn
  rcases Nat.lt_trichotomy i j with hl | hl | hl
  · exact absurd (by rw [he]) (pairwise_at hn h1 h2 hl)
  · exact hl
  · exact absurd (by rw [he]) (pairwise_at hn h2 h1 hl)
def waysL (n st : Nat) (p : List Int) : List (List Int) := (List.range n).map fun i => wayN n st i (pF p i)
theorem waysL_at {n st i : Nat} {p : List Int} (h : i < n) : (waysL n st p)[i]? = some (wayN n st i (pF p i)) := by simp [waysL, h]
theorem waysL_len (n st : Nat) (p : List Int) : (waysL n st p).length = n := by simp [waysL]
theorem len_net {p : List Int} {n st : Nat} (h : stepsI (n : Int) = st) (hl : p.length = n) (hN : NetOk n st) : NetOk p.length st := by rw [hl]; exact hN
set_option maxHeartbeats 2000000 in
theorem impl_waysOf (A : Option Addr) (n c st : Nat) (p : List Int) (w : World) (hx : RdL iv w A n p) (hN : NetOk n st) (hs : stepsI n = st) (hp : PermOk p) :
    Calls Try.prog 61 #[.slice A n c] w fun e w' => ∃ A' c' F, e = .returned (.slice A' n c') ∧ OwnT w' w.heap.size F A' n c' (waysL n st p) ∧ Below w.heap.size w w' := by
  obtain ⟨b1, b2, b3, b4⟩ := net_bd hN
  have HL := hx.len
  have HN := Lib.hid hN
  have HS := Lib.hid hs
  have HP := Lib.hid hp
  have hmk := run_make_row' (P := Try.prog) 54 25 (.slice none 0 0) 24 Try.underlying54 info_row rfl .i64 .i64 n (by omega) (by omega)
  clear hN hs hp
  go_enter Try.func61, Try.ntmps61
  go_wp2
  clear hmk
  go_loopg [11] n (fun g i wr => ∃ k F : Nat, k ≤ n ∧ g = n - k ∧ i = .int .i64 k ∧ OwnT wr w.heap.size F (some ⟨w.heap.size, 0, none⟩) n n ((waysL n st p).take k ++ List.replicate (n - k) []) ∧ Below w.heap.size w wr)
  case atStart => exact ⟨0, _, Nat.zero_le _, rfl, rfl, OwnT.made w n (by unfold maxLen; omega) (Nat.le_refl _), (Below.refl _ _).alloc (Nat.le_refl _) _⟩
  case round =>
    obtain ⟨k, F, hk, rfl, rfl, hown, hbel⟩ := hrel
    have hsz := hbel.size
    by_cases hlt : k < n
    · obtain ⟨b, off, x, rfl, HX, g⟩ := (hx.below hbel (Nat.le_refl _)).at hlt
      obtain ⟨g0, Ak, nk, ck, r, hA, hB, hg, hF, HR, gc, gf, _, _⟩ := hown.at hlt
      injection hA with hA; injection hA with hA; subst hA
      have HPF : Hid (x = (pF p k : Int) ∧ pF p k < n) := by
        have h1 := pF_some HP.out (i := k) (by rw [HL.out]; exact hlt)
        rw [HX.out] at h1
        show _ ∧ _
        refine ⟨?_, by rw [← HL.out]; exact h1.2⟩
        have := h1.1; injection this
      go_wp2_with fail
      refine (impl_StepWay n k x _).mono ?_
      rintro e w1 ⟨A1, n1, c1, ys, t, rfl, HE, O1, B1⟩
      have HY : Hid (ys = wayN n st k (pF p k)) := by
        show _ = _
        have h1 := HE.out
        rw [HPF.out.1, way_yes HN.out hlt HPF.out.2 HS.out] at h1
        injection h1 with h1 h2
        exact h1.symm
      have hown1 := hown.putNew B1 hlt O1 (F' := max F w1.heap.size) (by omega) (by omega)
      have gc1 : w1.cell? ⟨w.heap.size, k, none⟩ = some (.slice Ak nk ck) := (B1.cell (p := ⟨w.heap.size, k, none⟩) hg).trans gc
      have gf1 : w1.frozen? ⟨w.heap.size, k, none⟩ = false := (Below.frozen B1 (p := ⟨w.heap.size, k, none⟩) hg).trans gf
      go_wp2
      go_roundg (n - (k + 1))
      case rel => exact ⟨k + 1, _, by omega, rfl, by go_num, by rw [← set_fill (waysL_len n st p) hlt (by rw [waysL_at hlt, ← HY.out])]; exact hown1, (bstep hbel B1).setCell (Nat.le_refl _) _⟩
      case measure => omega
    · go_wp2
      go_ret
      obtain rfl : k = n := by omega
      refine ⟨_, _, F, rfl, ?_, hbel⟩
      rw [Nat.sub_self, List.take_of_length_le (by rw [waysL_len]; exact Nat.le_refl _)] at hown
      simpa using hown
/-- Whether two lists of the same length meet at some place. -/
def meetL (xs ys : List Int) : Bool := (xs.zip ys).any fun q => q.1 == q.2
theorem impl_waysMeet (A A' : Option Addr) (n c c' : Nat) (xs ys : List Int) (w : World) (hx : RdL iv w A n xs) (hy : RdL iv w A' n ys) (hn : n ≤ 1000) :
    Calls Try.prog 62 #[.slice A n c, .slice A' n c'] w (RetB (∃ (k : Nat) (x : Int), xs[k]? = some x ∧ ys[k]? = some x) w) := by
  have HL := hx.len
  go_enter Try.func62, Try.ntmps62
  go_wp2
  go_loopg [8] n (fun g i wr => ∃ k m : Nat, k ≤ n ∧ g = n - k ∧ i = .int .i64 k ∧ Hid (∀ (j : Nat) (x : Int), j < k → xs[j]? = some x → ys[j]? ≠ some x) ∧ wr = w.drewN m)
  case atStart => exact ⟨0, 0, Nat.zero_le _, rfl, rfl, (fun j x h => by omega), rfl⟩
  case round =>
    obtain ⟨k, m, hk, rfl, rfl, HN, rfl⟩ := hrel
    by_cases hlt : k < n
    · obtain ⟨b, off, x, rfl, HX, g⟩ := hx.at hlt
      obtain ⟨b', off', y, rfl, HY, g'⟩ := hy.at hlt
      by_cases hxy : x = y
      · subst hxy
        go_wp2
        go_quiet (fail)
        go_wp2
        go_ret
        exact RetB.yes2 ⟨k, x, HX.out, HY.out⟩ _ _
      · have hz : (x == y) = false := by simp [hxy]
        have HV := Lib.hid hxy; clear hxy
        go_wp2
        go_quiet (fail)
        go_wp2
        go_roundg (n - (k + 1))
        case rel =>
          refine ⟨k + 1, _, by omega, rfl, by go_num, (fun j z hj hz => ?_), rfl⟩
          rcases (by omega : j < k ∨ j = k) with h | rfl
          · exact HN.out j z h hz
          · rw [HX.out] at hz; injection hz with hz; subst hz; rw [HY.out]; intro h; injection h with h; exact HV.out h.symm
        case measure => omega
    · go_wp2
      go_ret
      refine RetB.no (fun ⟨k', x, h1, h2⟩ => ?_) _
      exact HN.out k' x (by have := (List.getElem?_eq_some_iff.1 h1).1; rw [HL.out] at this; omega) h1 h2
end Go.Proofs.Ytiahpaakkijejaa
