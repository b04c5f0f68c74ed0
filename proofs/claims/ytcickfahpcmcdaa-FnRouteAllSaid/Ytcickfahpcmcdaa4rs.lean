/- RouteAll of the reference. Condition: at most 1048576 numbers. -/
import Derived.Test.Ytcickfahpcmcdaa4rp
import Derived.Test.Ytcickfahpcmcdaa4mt
namespace Go.Proofs.Ytcickfahpcmcdaa
open Go.RowKit
set_option linter.unusedSimpArgs false
set_option linter.unusedVariables false
theorem spec_step {o e m : Int} {xs : List Int} {k : Nat} {x : Int} (A : Option Addr) (c : Nat) (w : World) (h : RouteOk o e m xs) (hx : xs[k]? = some x) (hr : RdC w A k (routeN o e m xs k)) (hc : k ≤ c) (hk : k ≤ 1048576) :
    Calls Try.prog 15 #[shv o e m, .slice A k c, .int .i64 k, .int .i64 x] w fun r w' => ∃ A' c', r = .returned (.tuple #[.slice A' (k + 1) c', .bool true]) ∧ OwnC w' w.heap.size 36 A' (k + 1) c' (routeN o e m xs (k + 1)) ∧ Below w.heap.size w w' := by
  refine (spec_CallMove o e m A k c _ k x w hr hc hk).mono ?_
  rintro r w' ⟨A', n', c', ys, b, rfl, HP, O, B⟩
  have hp := HP.out
  rw [route_step h hx] at hp
  injection hp with h1 h2
  subst h1; subst h2
  have hn : n' = k + 1 := by
    have h1 := (OwnC.len O).out
    rw [(route_inv h (k + 1) (by have := (List.getElem?_eq_some_iff.1 hx).1; omega)).2.1] at h1
    exact h1.symm
  subst hn
  exact ⟨A', c', rfl, O, B⟩
set_option maxRecDepth 100000 in
set_option maxHeartbeats 2000000 in
theorem spec_RouteAll (o e m : Int) (A : Option Addr) (n c : Nat) (xs : List Int) (w : World) (hx : RdL iv w A n xs) (hc : n ≤ c) (hn : n ≤ 1048576) :
    Calls Try.prog 44 #[shv o e m, .slice A n c] w (RetCB (routeL o e m xs) w) := by
  have B0 := bbox (below_box w (.cells #[.int .i64 o, .int .i64 e, .int .i64 m] 24)) (by simp) (.cells #[] 36)
  have S0 := (ShAt.new w o e m).alloc (.cells #[] 36)
  have O0 : OwnC ((w.alloc (.cells #[.int .i64 o, .int .i64 e, .int .i64 m] 24)).alloc (.cells #[] 36)) w.heap.size 36 (some ⟨w.heap.size + 1, 0, none⟩) 0 0 [] := by
    have h := OwnM.lit0 (sz := 3) (emb := clv) (e := 36) (B := w.heap.size) (w.alloc (.cells #[.int .i64 o, .int .i64 e, .int .i64 m] 24)) (by simp)
    rwa [show (w.alloc (.cells #[.int .i64 o, .int .i64 e, .int .i64 m] 24)).heap.size = w.heap.size + 1 by simp] at h
  have HL := hx.len
  obtain ⟨s0, s1, s2, -⟩ := S0.cells
  go_enter Try.func44, Try.ntmps44
  go_wp2_with fail
  refine (spec_Enough o e m _).mono ?_
  rintro r w1 ⟨rfl, b1⟩
  have B1 := bstep B0 b1
  have S1 := S0.below b1
  have O1 := OwnM.below O0 b1 (Nat.le_refl _)
  clear s0 s1 s2
  cases hen : enoughB o e m with
  | false =>
    have HE := Lib.hid hen; clear hen
    go_wp2
    go_ret2
    exact RetCB.mk [] (route_no (fun h => by have := enough_ok.2 h.1; rw [HE.out] at this; cases this)) O1 B1
  | true =>
    have HE := Lib.hid hen; clear hen
    obtain ⟨⟨hs1, hs2, hs3, hs4, hs5, hs6⟩, hem⟩ := enough_ok.1 HE.out
    obtain ⟨hp1, hp2⟩ := prod_bd (enough_ok.1 HE.out).1
    go_wp2_with fail
    refine (spec_l1Perm A n c xs _ (hx.below B1 (Nat.le_refl _)) hc hn).mono ?_
    rintro r w2 ⟨v2, rfl, hv2, m2, hw2⟩
    have b2 : Below w1.heap.size w1 w2 := by rw [hw2]; exact below_drewN (Below.refl _ _) _
    clear hw2
    have B2 := bstep B1 b2
    have S2 := S1.below b2
    have O2 := OwnM.below O1 b2 (Nat.le_refl _)
    cases v2 with
    | false =>
      have HN : Hid (¬ RouteOk o e m xs) := fun h => by have := hv2.out.2 h.2.1; cases this
      clear hv2
      go_wp2
      go_ret2
      exact RetCB.mk [] (route_no HN.out) O2 B2
    | true =>
      have HP : Hid (PermOk xs) := hv2.out.1 rfl
      clear hv2
      obtain ⟨s0, s1, s2, -⟩ := S2.cells
      go_wp2_with fail
      refine (spec_l4Lines o e m _ (by omega) (by omega)).mono ?_
      rintro r w3 ⟨rfl, b3⟩
      have B3 := bstep B2 b3
      have S3 := S2.below b3
      have O3 := OwnM.below O2 b3 (Nat.le_refl _)
      clear s0 s1 s2
      by_cases hl : (n : Int) = o * e
      · have HR : Hid (RouteOk o e m xs) := ⟨enough_ok.1 HE.out, HP.out, by rw [HL.out]; exact hl⟩
        have hz : ((n : Int) != o * e) = false := by simp [hl]
        clear hl
        go_wp2
        go_loopg [6, 7] n (fun g s6 s7 wr => ∃ (k cc : Nat) (A' : Option Addr), k ≤ n ∧ g = n - k ∧ s7 = .int .i64 k ∧ s6 = .slice A' k cc ∧ OwnC wr w.heap.size 36 A' k cc (routeN o e m xs k) ∧ ShAt wr w.heap.size o e m ∧ Below w.heap.size w wr)
        case atStart => exact ⟨0, 0, _, Nat.zero_le _, rfl, rfl, rfl, O3, S3, B3⟩
        case round =>
          obtain ⟨k, cc, A', hk, rfl, rfl, rfl, O, S, B⟩ := hrel
          by_cases hlt : k < n
          · obtain ⟨b, off, x, rfl, HX, g⟩ := (hx.below B (Nat.le_refl _)).at hlt
            obtain ⟨s0, s1, s2, -⟩ := S.cells
            have hbs := B.size
            have hk0 : (0 : Int) ≤ (k : Int) := Int.natCast_nonneg _
            have hk1 : (k : Int) < (n : Int) := by omega
            have Od : OwnC wr.drew w.heap.size 36 A' k cc (routeN o e m xs k) := ownm_drew O
            have HG : Hid (∀ w', Below w.heap.size w w' → w'.cell? ⟨b, off + k, none⟩ = some (.int .i64 x)) := fun w' h => by
              obtain ⟨b', off', x', hA, HX', g'⟩ := (hx.below h (Nat.le_refl _)).at hlt
              injection hA with hA
              injection hA with h1 h2
              subst h1; subst h2
              have hxx : x' = x := by have h3 := HX'.out; rw [HX.out] at h3; injection h3 with h3; exact h3.symm
              subst hxx
              exact g'
            go_wp2
            go_region_held3 (fun w' => w'.cell? ⟨w.heap.size, 0, none⟩ = some (.int .i64 o) ∧ w'.cell? ⟨w.heap.size, 1, none⟩ = some (.int .i64 e) ∧ w'.cell? ⟨w.heap.size, 2, none⟩ = some (.int .i64 m) ∧ w'.cell? ⟨b, off + k, none⟩ = some (.int .i64 x))
              (first | go_keep | exact ⟨by assumption, by assumption, by assumption, by assumption⟩)
              (first
                | (go_at_call 15; (refine (spec_step A' cc _ HR.out HX.out (OwnC.rd Od) (OwnM.cap O).1 (by omega)).mono ?_); rintro r w5 ⟨A5, c5, rfl, O5, b5⟩; have S5 : ShAt w5 w.heap.size o e m := ShAt.below S.drew b5; obtain ⟨s0', s1', s2', -⟩ := S5.cells; have B5 := bstep B.drew b5; have g5 := HG.out _ B5))
            clear s0 s1 s2 g s0' s1' s2' g5
            go_wp2
            go_roundg (n - (k + 1))
            case rel => exact ⟨k + 1, c5, A5, by omega, rfl, by go_num, rfl, OwnM.mono O5 hbs, S5, B5⟩
            case measure => omega
          · obtain rfl : n = k := by omega
            go_wp2
            go_ret2
            exact RetCB.mk _ (by rw [route_yes HR.out, HL.out]) O B
      · have HLN := Lib.hid hl
        have hz : ((n : Int) != o * e) = true := by simp [hl]
        clear hl
        go_wp2
        go_ret2
        exact RetCB.mk [] (route_no (fun h => HLN.out (by have := h.2.2; rwa [HL.out] at this))) O3 B3
end Go.Proofs.Ytcickfahpcmcdaa
