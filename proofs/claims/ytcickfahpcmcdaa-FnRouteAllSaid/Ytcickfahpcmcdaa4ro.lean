/- RouteAll of the program. Condition: at most 1048576 numbers. -/
import Derived.Test.Ytcickfahpcmcdaa4rp
namespace Go.Proofs.Ytcickfahpcmcdaa
open Go.RowKit
set_option linter.unusedSimpArgs false
set_option linter.unusedVariables false
theorem impl_step {o e m : Int} {xs : List Int} {k : Nat} {x : Int} (A : Option Addr) (c : Nat) (w : World) (h : RouteOk o e m xs) (hx : xs[k]? = some x) (hr : RdC w A k (routeN o e m xs k)) (hc : k ≤ c) (hk : k ≤ 1048576) :
    Calls Try.prog 14 #[shv o e m, .slice A k c, .int .i64 k, .int .i64 x] w fun r w' => ∃ A' c', r = .returned (.tuple #[.slice A' (k + 1) c', .bool true]) ∧ OwnC w' w.heap.size 36 A' (k + 1) c' (routeN o e m xs (k + 1)) ∧ Below w.heap.size w w' := by
  refine (impl_CallMove o e m A k c _ k x w hr hc hk).mono ?_
  rintro r w' ⟨A', n', c', ys, b, rfl, HP, O, B⟩
  have hp := HP.out
  rw [route_step h hx] at hp
  injection hp with h1 h2
  subst h1; subst h2
  have hn : n' = k + 1 := by
    have h1 := (OwnC.len O).out
    rw [(route_inv h (k + 1) (by have := (List.getElem?_eq_some_iff.1 hx).1; omega)).2.1] at h1
    exact h1.symm
  subst hn
  exact ⟨A', c', rfl, O, B⟩
set_option maxRecDepth 100000 in
set_option maxHeartbeats 2000000 in
theorem impl_RouteAll (o e m : Int) (A : Option Addr) (n c : Nat) (xs : List Int) (w : World) (hx : RdL iv w A n xs) (hc : n ≤ c) (hn : n ≤ 1048576) :
    Calls Try.prog 32 #[shv o e m, .slice A n c] w (RetCB (routeL o e m xs) w) := by
  have B0 := below_box w (.cells #[.int .i64 o, .int .i64 e, .int .i64 m] 24)
  have S0 := ShAt.new w o e m
  have HL := hx.len
  cases hen : enoughB o e m with
  | false =>
    have HE := Lib.hid hen; clear hen
    go_enter Try.func32, Try.ntmps32
    go_wp2_with fail
    refine (impl_Enough o e m _).mono ?_
    rintro r w1 ⟨rfl, b1⟩
    rw [HE.out]
    go_wp2
    go_ret2
    exact RetCB.mk [] (route_no (fun h => by have := enough_ok.2 h.1; rw [HE.out] at this; cases this)) OwnM.nil (bstep B0 b1)
  | true =>
    have HE := Lib.hid hen; clear hen
    obtain ⟨⟨hs1, hs2, hs3, hs4, hs5, hs6⟩, hem⟩ := enough_ok.1 HE.out
    obtain ⟨hp1, hp2⟩ := prod_bd (enough_ok.1 HE.out).1
    have HWR : Hid (IntKind.i64.wrap (o * e) = o * e) := IntWalk.i64_in _ (by omega)
    by_cases hl : (n : Int) = o * e
    · have HLN := Lib.hid hl
      have hz : ((n : Int) != o * e) = false := by simp [hl]
      clear hl
      go_enter Try.func32, Try.ntmps32
      go_wp2_with fail
      refine (impl_Enough o e m _).mono ?_
      rintro r w1 ⟨rfl, b1⟩
      rw [HE.out]
      have B1 := bstep B0 b1
      have S1 := S0.below b1
      obtain ⟨s0, s1, s2, -⟩ := S1.cells
      go_wp2_with fail
      refine (impl_isOrder A n c xs _ (hx.below B1 (Nat.le_refl _)) hn).mono ?_
      rintro r w2 ⟨v2, rfl, hv2, b2⟩
      have B2 := bstep B1 b2
      have S2 := S1.below b2
      clear s0 s1 s2
      cases v2 with
      | false =>
        have HN : Hid (¬ RouteOk o e m xs) := fun h => by have := hv2.out.2 h.2.1; cases this
        clear hv2
        go_wp2
        go_ret2
        exact RetCB.mk [] (route_no HN.out) OwnM.nil B2
      | true =>
        have HR : Hid (RouteOk o e m xs) := ⟨enough_ok.1 HE.out, hv2.out.1 rfl, by rw [HL.out]; exact HLN.out⟩
        clear hv2
        have hb2 := B2.size
        go_wp2
        go_loopg [6, 31] n (fun g s6 s31 wr => ∃ (k cc : Nat) (A' : Option Addr), k ≤ n ∧ g = n - k ∧ s31 = .int .i64 k ∧ s6 = .slice A' k cc ∧ OwnC wr w.heap.size 36 A' k cc (routeN o e m xs k) ∧ ShAt wr w.heap.size o e m ∧ Below w.heap.size w wr)
        case atStart => exact ⟨0, 0, none, Nat.zero_le _, rfl, rfl, rfl, OwnM.nil, S2, B2⟩
        case round =>
          obtain ⟨k, cc, A', hk, rfl, rfl, rfl, O, S, B⟩ := hrel
          by_cases hlt : k < n
          · obtain ⟨b, off, x, rfl, HX, g⟩ := (hx.below B (Nat.le_refl _)).at hlt
            obtain ⟨s0, s1, s2, -⟩ := S.cells
            have hbs := B.size
            go_wp2_with fail
            refine (impl_step A' cc _ HR.out HX.out (OwnC.rd O) (OwnM.cap O).1 (by omega)).mono ?_
            rintro r w3 ⟨A3, c3, rfl, O3, b3⟩
            clear s0 s1 s2 g
            go_wp2
            go_roundg (n - (k + 1))
            case rel => exact ⟨k + 1, c3, A3, by omega, rfl, by go_num, rfl, OwnM.mono O3 hbs, S.below b3, bstep B b3⟩
            case measure => omega
          · obtain rfl : n = k := by omega
            go_wp2
            go_ret2
            exact RetCB.mk _ (by rw [route_yes HR.out, HL.out]) O B
    · have HLN := Lib.hid hl
      have hz : ((n : Int) != o * e) = true := by simp [hl]
      clear hl
      go_enter Try.func32, Try.ntmps32
      go_wp2_with fail
      refine (impl_Enough o e m _).mono ?_
      rintro r w1 ⟨rfl, b1⟩
      rw [HE.out]
      have B1 := bstep B0 b1
      have S1 := S0.below b1
      obtain ⟨s0, s1, s2, -⟩ := S1.cells
      go_wp2
      go_ret2
      exact RetCB.mk [] (route_no (fun h => HLN.out (by have := h.2.2; rwa [HL.out] at this))) OwnM.nil B1
end Go.Proofs.Ytcickfahpcmcdaa
