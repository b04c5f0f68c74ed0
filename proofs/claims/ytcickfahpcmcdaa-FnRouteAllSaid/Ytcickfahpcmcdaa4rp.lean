/- RouteAll: the plain list of calls, l1Perm, and RouteAll of the program. Condition: at most 1048576 numbers. -/
import Derived.Test.Ytcickfahpcmcdaa4mq
import Derived.Test.Ytcickfahpcmcdaa4mr
import Derived.Test.YtcickfahpcmcdaaPerm
namespace Go.Proofs.Ytcickfahpcmcdaa
open Go.RowKit
set_option linter.unusedSimpArgs false
set_option linter.unusedVariables false
/-- The calls after the first k lines. -/
def routeN (o e m : Int) (xs : List Int) : Nat → List Cl
  | 0 => []
  | k + 1 => (moveL o e m (routeN o e m xs k) k (xs.getD k 0)).1
def RouteOk (o e m : Int) (xs : List Int) : Prop := (ShapeOk o e m ∧ e ≤ m) ∧ PermOk xs ∧ (xs.length : Int) = o * e
open Classical in
noncomputable def routeL (o e m : Int) (xs : List Int) : List Cl × Bool := if RouteOk o e m xs then (routeN o e m xs xs.length, true) else ([], false)
theorem route_yes {o e m : Int} {xs : List Int} (h : RouteOk o e m xs) : routeL o e m xs = (routeN o e m xs xs.length, true) := by unfold routeL; rw [if_pos h]
theorem route_no {o e m : Int} {xs : List Int} (h : ¬ RouteOk o e m xs) : routeL o e m xs = ([], false) := by unfold routeL; rw [if_neg h]
theorem shape_nil {o e m : Int} (h : ShapeOk o e m) : CallsOk o e m [] := ⟨h, by simp, by simp⟩
theorem route_inv {o e m : Int} {xs : List Int} (h : RouteOk o e m xs) : ∀ k, k ≤ xs.length → CallsOk o e m (routeN o e m xs k) ∧ (routeN o e m xs k).length = k ∧ ∀ (j : Nat) c, (routeN o e m xs k)[j]? = some c → c.i = j ∧ xs[j]? = some c.o := by
  intro k
  induction k with
  | zero => intro _; exact ⟨shape_nil h.1.1, rfl, fun j c hc => by simp [routeN] at hc⟩
  | succ k ih =>
    intro hk
    obtain ⟨h1, h2, h3⟩ := ih (by omega)
    obtain ⟨x, hx⟩ : ∃ x, xs[k]? = some x := ⟨_, List.getElem?_eq_getElem (by omega)⟩
    obtain ⟨hx0, hx1, hx2⟩ := h.2.1 k x hx
    have hl := h.2.2
    have hf : LinesFree o e (routeN o e m xs k) k x := ⟨⟨by omega, by omega⟩, ⟨hx0, by omega⟩, fun c hc => by
      obtain ⟨j, hj⟩ := List.getElem?_of_mem hc
      have hjl := (List.getElem?_eq_some_iff.1 hj).1
      obtain ⟨a1, a2⟩ := h3 j c hj
      refine ⟨by omega, fun he => hx2 ?_⟩
      rw [← he]
      exact at_mem_take (by omega) a2⟩
    obtain ⟨ys, v, he, hok, hyl, hyc, -⟩ := moveL_ok h1 h.1.2 hf
    have hr : routeN o e m xs (k + 1) = ys ++ [⟨k, x, v⟩] := by
      show (moveL o e m (routeN o e m xs k) k (xs.getD k 0)).1 = _
      have : xs.getD k 0 = x := by simp [hx]
      rw [this, he]
    rw [hr]
    refine ⟨hok, by simp [hyl, h2], fun j c hc => ?_⟩
    by_cases hj : j < ys.length
    · rw [List.getElem?_append_left hj] at hc
      obtain ⟨d, hd⟩ : ∃ d, (routeN o e m xs k)[j]? = some d := ⟨_, List.getElem?_eq_getElem (by omega)⟩
      obtain ⟨b1, b2⟩ := hyc j c d hc hd
      obtain ⟨a1, a2⟩ := h3 j d hd
      rw [b1, b2]; exact ⟨a1, a2⟩
    · rw [List.getElem?_append_right (by omega)] at hc
      have hjk : j = k := by
        have := (List.getElem?_eq_some_iff.1 hc).1
        simp at this; omega
      subst hjk
      rw [show j - ys.length = 0 by omega] at hc
      simp at hc
      subst hc
      exact ⟨rfl, hx⟩
theorem route_step {o e m : Int} {xs : List Int} {k : Nat} {x : Int} (h : RouteOk o e m xs) (hx : xs[k]? = some x) : moveL o e m (routeN o e m xs k) k x = (routeN o e m xs (k + 1), true) := by
  have hk := (List.getElem?_eq_some_iff.1 hx).1
  obtain ⟨h1, h2, h3⟩ := route_inv h k (by omega)
  obtain ⟨hx0, hx1, hx2⟩ := h.2.1 k x hx
  have hl := h.2.2
  have hf : LinesFree o e (routeN o e m xs k) k x := ⟨⟨by omega, by omega⟩, ⟨hx0, by omega⟩, fun c hc => by
    obtain ⟨j, hj⟩ := List.getElem?_of_mem hc
    have hjl := (List.getElem?_eq_some_iff.1 hj).1
    obtain ⟨a1, a2⟩ := h3 j c hj
    refine ⟨by omega, fun he => hx2 ?_⟩
    rw [← he]
    exact at_mem_take (by omega) a2⟩
  obtain ⟨ys, v, he, -⟩ := moveL_ok h1 h.1.2 hf
  have hr : routeN o e m xs (k + 1) = ys ++ [⟨k, x, v⟩] := by
    show (moveL o e m (routeN o e m xs k) k (xs.getD k 0)).1 = _
    have : xs.getD k 0 = x := by simp [hx]
    rw [this, he]
  rw [hr, he]
theorem route_len (o e m : Int) (xs : List Int) : ∀ (h : xs.length ≤ 1048576), (routeL o e m xs).1.length ≤ 1048576 := fun h => by
  by_cases h1 : RouteOk o e m xs
  · rw [route_yes h1]; have := (route_inv h1 xs.length (Nat.le_refl _)).2.1; simp only; omega
  · rw [route_no h1]; simp
theorem has_is {A : Option Addr} {n c : Nat} {xs : List Int} {v : Int} {b : Bool} {w0 : World} (hx : RdL iv w0 A n xs) (hn : n ≤ 1048576) (h : decide (v ∈ xs) = b) {m : Nat} : Calls Try.prog 62 #[.slice A n c, .int .i64 v] (w0.drewN m) fun e w' => e = .returned (.bool b) ∧ ∃ k, w' = (w0.drewN m).drewN k := by
  rw [← h]; exact l1Has_any A n c xs v _ (RdL.drewN hx m) hn
set_option maxRecDepth 100000 in
set_option maxHeartbeats 2000000 in
theorem spec_l1Perm (A : Option Addr) (n c : Nat) (xs : List Int) (w : World) (hx : RdL iv w A n xs) (hc : n ≤ c) (hn : n ≤ 1048576) :
    Calls Try.prog 71 #[.slice A n c] w (RetB (PermOk xs) w) := by
  have HL := hx.len
  go_enter Try.func71, Try.ntmps71
  go_wp2
  go_loopg [3] n (fun g i wr => ∃ k m : Nat, k ≤ n ∧ g = n - k ∧ i = .int .i64 k ∧ Hid (PermTo xs k) ∧ wr = w.drewN m)
  case atStart => exact ⟨0, 0, Nat.zero_le _, rfl, rfl, (fun i _ h => absurd h (Nat.not_lt_zero _)), rfl⟩
  case round =>
    obtain ⟨k, m, hk, rfl, rfl, HP, rfl⟩ := hrel
    by_cases hlt : k < n
    · obtain ⟨b, off, x, rfl, HX, g⟩ := hx.at hlt
      have HNO : Hid (¬ (0 ≤ x ∧ x ≤ (n : Int) - 1 ∧ x ∉ xs.take k) → ¬ PermOk xs) := fun h hp => h (by
        obtain ⟨h1, h2, h3⟩ := hp k x HX.out
        rw [HL.out] at h2
        exact ⟨h1, by omega, h3⟩)
      have hk0 : (0 : Int) ≤ (k : Int) := Int.natCast_nonneg _
      have hk1 : (k : Int) < (n : Int) := by omega
      have HWR : Hid (IntKind.i64.wrap ((n : Int) - 1) = (n : Int) - 1) := IntWalk.i64_in _ (by omega)
      have hkc : (k : Int) ≤ (c : Int) := by omega
      cases hin : inB x 0 ((n : Int) - 1) with
      | false =>
        have HIN := Lib.hid hin; clear hin
        go_wp2
        have hwr := HWR.out
        go_quiet ((go_at_call 57; exact quiet_add (l1_is HIN.out)))
        clear hwr
        go_wp2
        go_ret
        exact RetB.no2 (HNO.out (fun h => by have h1 : inB x 0 ((n : Int) - 1) = true := (by simp [inB]; omega); rw [HIN.out] at h1; cases h1)) _ _
      | true =>
        have HIN := Lib.hid hin; clear hin
        cases hm : decide (x ∈ xs.take k) with
        | true =>
          have HM := Lib.hid hm; clear hm
          go_wp2
          have hwr := HWR.out
          go_quiet (first
            | (go_at_call 57; exact quiet_add (l1_is HIN.out))
            | (go_at_call 62; exact quiet_add (has_is (hx.take (Nat.le_of_lt hlt)) (by omega) HM.out)))
          clear hwr
          go_wp2
          go_ret
          exact RetB.no2 (HNO.out (fun h => h.2.2 (of_decide_eq_true HM.out))) _ _
        | false =>
          have HM := Lib.hid hm; clear hm
          go_wp2
          have hwr := HWR.out
          go_quiet (first
            | (go_at_call 57; exact quiet_add (l1_is HIN.out))
            | (go_at_call 62; exact quiet_add (has_is (hx.take (Nat.le_of_lt hlt)) (by omega) HM.out)))
          clear hwr
          go_wp2
          go_roundg (n - (k + 1))
          case rel => exact ⟨k + 1, m + nq, by omega, rfl, by go_num, HP.out.succ HX.out (by have := HIN.out; simp [inB] at this; omega) (by have := HIN.out; simp [inB] at this; rw [HL.out]; omega) (of_decide_eq_false HM.out), by simp⟩
          case measure => omega
    · go_wp2
      go_ret
      exact RetB.yes (HP.out.done (by rw [HL.out]; omega)) _
end Go.Proofs.Ytcickfahpcmcdaa
