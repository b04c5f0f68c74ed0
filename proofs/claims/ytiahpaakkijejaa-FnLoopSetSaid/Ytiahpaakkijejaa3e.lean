/- StepClashes of both. Condition: at most 1048576 numbers. -/
import Derived.Test.Ytiahpaakkijejaa3d
namespace Go.Proofs.Ytiahpaakkijejaa
open Go.RowKit
set_option linter.unusedSimpArgs false
set_option linter.unusedVariables false
open Classical in
noncomputable def clashL (p : List Int) : Int := if 0 < stepsI p.length ∧ PermOk p then (clashN p.length (stepsI p.length).toNat (pF p) : Int) else -1
theorem clash_no {p : List Int} (h : ¬ (0 < stepsI p.length ∧ PermOk p)) : clashL p = -1 := by unfold clashL; rw [if_neg h]
theorem clash_yes {p : List Int} {n st : Nat} (hl : p.length = n) (hN : NetOk n st) (hs : stepsI n = st) (hp : PermOk p) : clashL p = (clashN n st (pF p) : Int) := by
  obtain ⟨b1, b2, b3, b4⟩ := net_bd hN
  unfold clashL
  subst hl
  rw [if_pos ⟨by omega, hp⟩, hs]; simp
theorem meet_iff {n st : Nat} {p : Nat → Nat} {i j : Nat} : (∃ (k : Nat) (x : Int), (wayN n st i (p i))[k]? = some x ∧ (wayN n st j (p j))[k]? = some x) ↔ meetB n st p i j = true := by
  unfold meetB
  rw [List.any_eq_true]
  constructor
  · rintro ⟨k, x, h1, h2⟩
    have hk : k < st := by have := (List.getElem?_eq_some_iff.1 h1).1; rwa [wayN_len] at this
    rw [wayN_at hk] at h1 h2
    injection h1 with h1; injection h2 with h2
    exact ⟨k, List.mem_range.2 hk, by rw [beq_iff_eq]; unfold way; omega⟩
  · rintro ⟨k, hk, h⟩
    have hk' := List.mem_range.1 hk
    rw [beq_iff_eq] at h
    unfold way at h
    exact ⟨k, _, wayN_at hk', by rw [wayN_at hk', h]⟩
theorem clash_bd {n st : Nat} {p : Nat → Nat} {k : Nat} (hk : k ≤ 8) : clashTo n st p k ≤ 28 := by
  have := clashTo_le (n := n) (st := st) p k
  have h2 : k * (k - 1) ≤ 8 * 7 := Nat.mul_le_mul hk (by omega)
  omega
theorem retm_no {P : Prop} {w : World} {e : Ending} {w' : World} (h : RetM P w e w') (hn : ¬ P) : e = .returned (.bool false) ∧ Below w.heap.size w w' := by
  obtain ⟨b, rfl, hb, hw⟩ := h
  cases b with
  | false => exact ⟨rfl, hw⟩
  | true => exact absurd (hb.out.1 rfl) hn
theorem retm_yes {P : Prop} {w : World} {e : Ending} {w' : World} (h : RetM P w e w') (hp : P) : e = .returned (.bool true) ∧ Below w.heap.size w w' := by
  obtain ⟨b, rfl, hb, hw⟩ := h
  obtain rfl := hb.out.2 hp
  exact ⟨rfl, hw⟩
theorem retb_is {Q : Prop} {P : Program} {f : FuncId} {args : Array Value} {w : World} {b : Bool} (h : Calls P f args w (RetB Q w)) (hb : b = true ↔ Q) : Calls P f args w fun e w' => e = .returned (.bool b) ∧ ∃ m, w' = w.drewN m :=
  h.mono fun _ _ ⟨b', he, hb', m, hm⟩ => ⟨by rw [he]; congr 2; rw [Bool.eq_iff_iff, hb'.out, hb], m, hm⟩
set_option maxHeartbeats 2000000 in
theorem impl_StepClashes (A : Option Addr) (n c : Nat) (p : List Int) (w : World) (hx : RdL iv w A n p) (hc : n ≤ c) (hn : n ≤ 1048576) :
    Calls Try.prog 31 #[.slice A n c] w fun e w' => e = .returned (.int .i64 (clashL p)) ∧ Below w.heap.size w w' := by
  have HL := hx.len
  rcases lines_cases n with ⟨h1, -⟩ | ⟨n', st, hn', hN, h1, -⟩
  · have HE : Hid (clashL p = -1) := clash_no (fun h => by rw [HL.out] at h; omega)
    have H1 := Lib.hid h1; clear h1
    go_enter Try.func31, Try.ntmps31
    go_wp2_with (go_at_call 47; refine (impl_stepsOf n _).mono ?_; rintro e w1 ⟨rfl, m1, rfl⟩; rw [H1.out])
    go_ret
    exact ⟨ret_int HE.out.symm, below_drewN (Below.refl _ _) _⟩
  · obtain rfl : n' = n := by omega
    clear hn'
    obtain ⟨b1, b2, b3, b4⟩ := net_bd hN
    have H1 := Lib.hid h1
    have HN := Lib.hid hN
    clear h1 hN
    by_cases hp : PermOk p
    · have HP := Lib.hid hp; clear hp
      have HE := Lib.hid (clash_yes HL.out HN.out H1.out HP.out)
      go_enter Try.func31, Try.ntmps31
      go_wp2_with (first
        | (go_at_call 47; refine (impl_stepsOf n' _).mono ?_; rintro e w1 ⟨rfl, m1, rfl⟩; rw [H1.out])
        | (go_at_call 60; refine (impl_isOrder A n' c p _ (hx.drewN _) (by omega)).mono ?_; rintro e w2 hw2; obtain ⟨rfl, B2⟩ := retm_yes hw2 HP.out)
        | (go_at_call 61; refine (impl_waysOf A n' c st p _ (hx.below ((below_drewN (Below.refl _ _) m1).trans (B2.mono (by simp))) (Nat.le_refl _)) HN.out H1.out HP.out).mono ?_; rintro e w3 ⟨A3, c3, F3, rfl, O3, B3⟩))
      have BW : Below w.heap.size w w3 := bstep ((below_drewN (Below.refl _ _) m1).trans (B2.mono (by simp))) B3
      have hr := O3.rd
      clear O3
      go_loopg [4, 20] n' (fun g s4 s20 wr => ∃ (k m : Nat) (S : Int), k ≤ n' ∧ g = n' - k ∧ s20 = .int .i64 k ∧ s4 = .int .i64 S ∧ Hid (S = (clashTo n' st (pF p) k : Int)) ∧ wr = w3.drewN m)
      case atStart => exact ⟨0, 0, 0, Nat.zero_le _, rfl, rfl, rfl, rfl, rfl⟩
      case round =>
        obtain ⟨k, m, S, hk, rfl, rfl, rfl, HS, rfl⟩ := hrel
        have hS : 0 ≤ S ∧ S ≤ 28 := by rw [HS.out]; have := clash_bd (n := n') (st := st) (p := pF p) (k := k) (by omega); omega
        obtain ⟨hS0, hS1⟩ := hS
        by_cases hlt : k < n'
        · obtain ⟨bj, offj, Aj, nj, cj, rj, rfl, HRj, gj, hrj, hncj⟩ := hr.at hlt
          have HWj : Hid (rj = wayN n' st k (pF p k)) := by show _ = _; have h := HRj.out; rw [waysL_at hlt] at h; injection h with h; exact h.symm
          have hnj : nj = st := by rw [← hrj.len.out, HWj.out, wayN_len]
          go_wp2
          go_loopg [4, 24] k (fun g s4 s24 wr => ∃ (j m : Nat) (S : Int), j ≤ k ∧ g = k - j ∧ s24 = .int .i64 j ∧ s4 = .int .i64 S ∧ Hid (S = (clashTo n' st (pF p) k + clashJ n' st (pF p) k j : Nat)) ∧ wr = w3.drewN m)
          case atStart => exact ⟨0, m, S, Nat.zero_le _, rfl, rfl, rfl, (by show _ = _; rw [HS.out]; simp [clashJ]), rfl⟩
          case round =>
            obtain ⟨j, mj, T, hj, rfl, rfl, rfl, HT, rfl⟩ := hrel
            have hT : 0 ≤ T ∧ T ≤ 36 := by
              rw [HT.out]
              have := clash_bd (n := n') (st := st) (p := pF p) (k := k) (by omega)
              have := clashJ_le (n := n') (st := st) (pF p) k j
              omega
            obtain ⟨hT0, hT1⟩ := hT
            by_cases hjk : j < k
            · obtain ⟨bi, offi, Ai, ni, ci, ri, hA, HRi, gi, hri, hnci⟩ := hr.at (k := j) (by omega)
              injection hA with hA; injection hA with hA1 hA2; subst hA1 hA2
              have HWi : Hid (ri = wayN n' st j (pF p j)) := by show _ = _; have h := HRi.out; rw [waysL_at (by omega)] at h; injection h with h; exact h.symm
              have hni : ni = st := by rw [← hri.len.out, HWi.out, wayN_len]
              subst hni
              have hnj' := hnj
              subst hnj'
              have hj0 : (0 : Int) ≤ (j : Int) := Int.natCast_nonneg _
              have hk0 : (0 : Int) ≤ (k : Int) := Int.natCast_nonneg _
              have hj1 : (j : Int) < (n' : Int) := by omega
              have hk1 : (k : Int) < (n' : Int) := by omega
              have hsu := clashJ_succ (n := n') (st := nj) (pF p) k j
              cases hb : meetB n' nj (pF p) j k with
              | true =>
                have HB := Lib.hid hb
                rw [hb] at hsu
                have HSU := Lib.hid hsu
                clear hb hsu
                have key : ∀ q : Nat, Calls Try.prog 62 #[.slice Ai nj ci, .slice Aj nj cj] (w3.drewN (mj + q)) fun e w' => e = .returned (.bool true) ∧ ∃ m, w' = (w3.drewN (mj + q)).drewN m := fun q => retb_is (impl_waysMeet Ai Aj nj ci cj ri rj _ (hri.drewN _) (hrj.drewN _) (by omega)) (by rw [HWi.out, HWj.out, meet_iff, HB.out])
                go_wp2
                go_quiet ((go_at_call 62; exact quiet_add (key _)))
                go_wp2
                go_roundg (k - (j + 1))
                case rel => exact ⟨j + 1, _, T + 1, by omega, rfl, by go_num, rfl, (by show _ = _; rw [HT.out, HSU.out]; simp; omega), rfl⟩
                case measure => omega
              | false =>
                have HB := Lib.hid hb
                rw [hb] at hsu
                have HSU := Lib.hid hsu
                clear hb hsu
                have key : ∀ q : Nat, Calls Try.prog 62 #[.slice Ai nj ci, .slice Aj nj cj] (w3.drewN (mj + q)) fun e w' => e = .returned (.bool false) ∧ ∃ m, w' = (w3.drewN (mj + q)).drewN m := fun q => retb_is (impl_waysMeet Ai Aj nj ci cj ri rj _ (hri.drewN _) (hrj.drewN _) (by omega)) (by rw [HWi.out, HWj.out, meet_iff, HB.out])
                go_wp2
                go_quiet ((go_at_call 62; exact quiet_add (key _)))
                go_wp2
                go_roundg (k - (j + 1))
                case rel => exact ⟨j + 1, _, T, by omega, rfl, by go_num, rfl, (by show _ = _; rw [HT.out, HSU.out]; simp), rfl⟩
                case measure => omega
            · have HFin : Hid (T = (clashTo n' st (pF p) (k + 1) : Int)) := by
                show _ = _
                obtain rfl : j = k := by omega
                rw [HT.out, clashTo_succ]
              go_wp2
              go_roundg (n' - (k + 1))
              case rel => exact ⟨k + 1, mj, T, by omega, rfl, by go_num, rfl, HFin, rfl⟩
              case measure => omega
        · go_wp2
          go_ret
          obtain rfl : k = n' := by omega
          exact ⟨ret_int (by rw [HE.out, HS.out]; rfl), below_drewN BW _⟩
    · have HE : Hid (clashL p = -1) := clash_no (fun h => hp h.2)
      have HP := Lib.hid hp; clear hp
      go_enter Try.func31, Try.ntmps31
      go_wp2_with (first
        | (go_at_call 47; refine (impl_stepsOf n' _).mono ?_; rintro e w1 ⟨rfl, m1, rfl⟩; rw [H1.out])
        | (go_at_call 60; refine (impl_isOrder A n' c p _ (hx.drewN _) (by omega)).mono ?_; rintro e w2 hw2; obtain ⟨rfl, B2⟩ := retm_no hw2 HP.out))
      go_ret
      exact ⟨ret_int HE.out.symm, (below_drewN (Below.refl _ _) m1).trans (B2.mono (by simp))⟩
def meetTo (n st : Nat) (p : Nat → Nat) (i j s : Nat) : Bool := (List.range s).any fun s => way n st p i (s + 1) == way n st p j (s + 1)
theorem meetTo_succ (n st : Nat) (p : Nat → Nat) (i j s : Nat) : meetTo n st p i j (s + 1) = (meetTo n st p i j s || (way n st p i (s + 1) == way n st p j (s + 1))) := by
  unfold meetTo; rw [List.range_succ, List.any_append]; simp
theorem meetB_comm (n st : Nat) (p : Nat → Nat) (i j : Nat) : meetB n st p i j = meetB n st p j i := by
  unfold meetB; congr 1; funext s; rw [Bool.eq_iff_iff, beq_iff_eq, beq_iff_eq]; exact eq_comm
set_option maxHeartbeats 4000000 in
theorem spec_StepClashes (A : Option Addr) (n c : Nat) (p : List Int) (w : World) (hx : RdL iv w A n p) (hc : n ≤ c) (hn : n ≤ 1048576) :
    Calls Try.prog 29 #[.slice A n c] w fun e w' => e = .returned (.int .i64 (clashL p)) ∧ Below w.heap.size w w' := by
  have HL := hx.len
  by_cases hp : PermOk p
  · have HP := Lib.hid hp; clear hp
    rcases lines_cases n with ⟨h0, h1, -⟩ | ⟨n', st, hn', hN, h1, h2, -⟩
    · have HE : Hid (clashL p = -1) := clash_no (fun h => by rw [HL.out] at h; omega)
      have H1 := Lib.hid h1; clear h0 h1
      go_enter Try.func29, Try.ntmps29
      go_wp2_with (first
        | (go_at_call 59; refine (spec_l1Perm A n c p _ hx hc hn).mono ?_; rintro e w1 ⟨b1, rfl, hb1, m1, rfl⟩; obtain rfl := hb1.out.2 HP.out)
        | (go_at_call 48; refine (spec_l3Lines n _).mono ?_; rintro e w2 ⟨rfl, m2, rfl⟩; rw [H1.out]))
      go_ret
      exact ⟨ret_int HE.out.symm, below_drewN (Below.refl _ _) _⟩
    · obtain rfl : n' = n := by omega
      clear hn'
      obtain ⟨b1, b2, b3, b4⟩ := net_bd hN
      have H1 := Lib.hid h1
      have H2 := Lib.hid h2
      have HN := Lib.hid hN
      clear h1 h2 hN
      have HE := Lib.hid (clash_yes HL.out HN.out H1.out HP.out)
      go_enter Try.func29, Try.ntmps29
      go_wp2_with (first
        | (go_at_call 59; refine (spec_l1Perm A n' c p _ hx hc hn).mono ?_; rintro e w1 ⟨b1, rfl, hb1, m1, rfl⟩; obtain rfl := hb1.out.2 HP.out)
        | (go_at_call 48; refine (spec_l3Lines n' _).mono ?_; rintro e w2 ⟨rfl, m2, rfl⟩; rw [H2.out]))
      clear hb1
      go_loopg [3, 4] n' (fun g s3 s4 wr => ∃ (k : Nat) (S : Int), k ≤ n' ∧ g = n' - k ∧ s4 = .int .i64 k ∧ s3 = .int .i64 S ∧ Hid (S = (clashTo n' st (pF p) k : Int)) ∧ Below w.heap.size w wr)
      case atStart => exact ⟨0, 0, Nat.zero_le _, rfl, rfl, rfl, rfl, below_drewN (Below.refl _ _) _⟩
      case round =>
        obtain ⟨k, S, hk, rfl, rfl, rfl, HS, hbel⟩ := hrel
        have hS : 0 ≤ S ∧ S ≤ 28 := by rw [HS.out]; have := clash_bd (n := n') (st := st) (p := pF p) (k := k) (by omega); omega
        obtain ⟨hS0, hS1⟩ := hS
        by_cases hlt : k < n'
        · obtain ⟨wo, hwo⟩ : ∃ wo : World, wo = wr := ⟨_, rfl⟩
          subst hwo
          go_wp2
          go_loopg [3, 5] k (fun g s3 s5 wr => ∃ (j : Nat) (S : Int), j ≤ k ∧ g = k - j ∧ s5 = .int .i64 j ∧ s3 = .int .i64 S ∧ Hid (S = (clashTo n' st (pF p) k + clashJ n' st (pF p) k j : Nat)) ∧ Below w.heap.size w wr)
          case atStart => exact ⟨0, S, Nat.zero_le _, rfl, rfl, rfl, (by show _ = _; rw [HS.out]; simp [clashJ]), hbel⟩
          case round =>
            obtain ⟨j, T, hj, rfl, rfl, rfl, HT, hbj⟩ := hrel
            have hT : 0 ≤ T ∧ T ≤ 36 := by
              rw [HT.out]
              have := clash_bd (n := n') (st := st) (p := pF p) (k := k) (by omega)
              have := clashJ_le (n := n') (st := st) (pF p) k j
              omega
            obtain ⟨hT0, hT1⟩ := hT
            by_cases hjk : j < k
            · obtain ⟨b, off, xk, rfl, HXk, gk1⟩ := (hx.below hbj (Nat.le_refl _)).at hlt
              obtain ⟨b', off', xj, hA, HXj, gj1⟩ := hx.at (k := j) (by omega)
              injection hA with hA; injection hA with hA1 hA2; subst hA1 hA2
              clear gj1
              have HK : Hid (xk = (pF p k : Int) ∧ pF p k < n') := by
                have h1 := pF_some HP.out (i := k) (by rw [HL.out]; exact hlt)
                rw [HXk.out] at h1
                show _ ∧ _
                exact ⟨(by have := h1.1; injection this), by rw [← HL.out]; exact h1.2⟩
              have HJ : Hid (xj = (pF p j : Int) ∧ pF p j < n') := by
                have h1 := pF_some HP.out (i := j) (by rw [HL.out]; omega)
                rw [HXj.out] at h1
                show _ ∧ _
                exact ⟨(by have := h1.1; injection this), by rw [← HL.out]; exact h1.2⟩
              go_wp2_with fail
              refine (spec_StepWay n' k xk _).mono ?_
              rintro e w1 ⟨A1, n1, c1, ys, t1, rfl, HE1, O1, B1⟩
              have HY1 : Hid (ys = wayN n' st k (pF p k)) := by
                show _ = _
                have h1 := HE1.out
                rw [HK.out.1, way_yes HN.out hlt HK.out.2 H1.out] at h1
                injection h1 with h1 h2
                exact h1.symm
              have hb1 := bstep hbj B1
              obtain ⟨b'', off'', xj', hA, HXj', gj1⟩ := (hx.below hb1 (Nat.le_refl _)).at (k := j) (by omega)
              injection hA with hA; injection hA with hA1 hA2; subst hA1 hA2
              obtain rfl : xj = xj' := by have := HXj.out; rw [HXj'.out] at this; injection this with this; exact this.symm
              go_wp2_with fail
              refine (spec_StepWay n' j xj _).mono ?_
              rintro e w2 ⟨A2, n2, c2, zs, t2, rfl, HE2, O2, B2⟩
              have HY2 : Hid (zs = wayN n' st j (pF p j)) := by
                show _ = _
                have h1 := HE2.out
                rw [HJ.out.1, way_yes HN.out (by omega) HJ.out.2 H1.out] at h1
                injection h1 with h1 h2
                exact h1.symm
              have hb2 := bstep hb1 B2
              have hr1 := (O1.below B2 (Nat.le_refl _)).rd
              have hr2 := O2.rd
              have hn1 : n1 = st := by rw [← hr1.len.out, HY1.out, wayN_len]
              have hn2 : n2 = st := by rw [← hr2.len.out, HY2.out, wayN_len]
              clear O1 O2 gj1 gk1
              subst hn1
              have hn2' := hn2
              subst hn2'
              go_wp2
              go_loopg [10, 11] n2 (fun g s10 s11 wr => ∃ (s m : Nat), s ≤ n2 ∧ g = n2 - s ∧ s11 = .int .i64 s ∧ s10 = .bool (meetTo n' n2 (pF p) k j s) ∧ wr = w2.drewN m)
              case atStart => exact ⟨0, 0, Nat.zero_le _, rfl, rfl, rfl, rfl⟩
              case round =>
                obtain ⟨s, m, hs, rfl, rfl, rfl, rfl⟩ := hrel
                by_cases hsl : s < n2
                · obtain ⟨bx, offx, vx, rfl, HVX, gx⟩ := hr1.at hsl
                  obtain ⟨by', offy, vy, rfl, HVY, gy⟩ := hr2.at hsl
                  have HVX' : Hid (vx = (way n' n2 (pF p) k (s + 1) : Int)) := by
                    show _ = _
                    have h := HVX.out; rw [HY1.out, wayN_at hsl] at h; injection h with h; exact h.symm
                  have HVY' : Hid (vy = (way n' n2 (pF p) j (s + 1) : Int)) := by
                    show _ = _
                    have h := HVY.out; rw [HY2.out, wayN_at hsl] at h; injection h with h; exact h.symm
                  have HMS := Lib.hid (meetTo_succ n' n2 (pF p) k j s)
                  have hs0 : (0 : Int) ≤ (s : Int) := Int.natCast_nonneg _
                  have hs1 : (s : Int) < (n2 : Int) := by omega
                  cases hM : meetTo n' n2 (pF p) k j s with
                  | true =>
                    have HM := Lib.hid hM; clear hM
                    go_wp2
                    go_quiet (fail)
                    go_wp2
                    go_roundg (n2 - (s + 1))
                    case rel => exact ⟨s + 1, _, by omega, rfl, by go_num, by rw [HMS.out, HM.out]; rfl, rfl⟩
                    case measure => omega
                  | false =>
                    have HM := Lib.hid hM; clear hM
                    by_cases hxy : vx = vy
                    · have HQ : Hid ((way n' n2 (pF p) k (s + 1) == way n' n2 (pF p) j (s + 1)) = true) := by show _ = _; rw [beq_iff_eq]; have := HVX'.out; have := HVY'.out; omega
                      have hz : (vx == vy) = true := by simp [hxy]
                      clear hxy
                      go_wp2
                      go_quiet (fail)
                      go_wp2
                      go_roundg (n2 - (s + 1))
                      case rel => exact ⟨s + 1, _, by omega, rfl, by go_num, by rw [HMS.out, HM.out, HQ.out]; rfl, rfl⟩
                      case measure => omega
                    · have HQ : Hid ((way n' n2 (pF p) k (s + 1) == way n' n2 (pF p) j (s + 1)) = false) := by show _ = _; rw [beq_eq_false_iff_ne]; have := HVX'.out; have := HVY'.out; omega
                      have hz : (vx == vy) = false := by simp [hxy]
                      clear hxy
                      go_wp2
                      go_quiet (fail)
                      go_wp2
                      go_roundg (n2 - (s + 1))
                      case rel => exact ⟨s + 1, _, by omega, rfl, by go_num, by rw [HMS.out, HM.out, HQ.out]; rfl, rfl⟩
                      case measure => omega
                · have HMB : Hid (meetTo n' n2 (pF p) k j s = meetB n' n2 (pF p) j k) := by
                    show _ = _
                    obtain rfl : s = n2 := by omega
                    rw [meetB_comm]; rfl
                  have hsu := clashJ_succ (n := n') (st := n2) (pF p) k j
                  rw [← HMB.out] at hsu
                  cases hM : meetTo n' n2 (pF p) k j s with
                  | true =>
                    rw [hM] at hsu
                    have HSU := Lib.hid hsu
                    clear hM hsu
                    go_wp2
                    go_roundg (k - (j + 1))
                    case rel => exact ⟨j + 1, T + 1, by omega, rfl, by go_num, rfl, (by show _ = _; rw [HT.out, HSU.out]; simp; omega), below_drewN hb2 _⟩
                    case measure => omega
                  | false =>
                    rw [hM] at hsu
                    have HSU := Lib.hid hsu
                    clear hM hsu
                    go_wp2
                    go_roundg (k - (j + 1))
                    case rel => exact ⟨j + 1, T, by omega, rfl, by go_num, rfl, (by show _ = _; rw [HT.out, HSU.out]; simp), below_drewN hb2 _⟩
                    case measure => omega
            · have HFin : Hid (T = (clashTo n' st (pF p) (k + 1) : Int)) := by
                show _ = _
                obtain rfl : j = k := by omega
                rw [HT.out, clashTo_succ]
              go_wp2
              go_roundg (n' - (k + 1))
              case rel => exact ⟨k + 1, T, by omega, rfl, by go_num, rfl, HFin, hbj⟩
              case measure => omega
        · go_wp2
          go_ret
          obtain rfl : k = n' := by omega
          exact ⟨ret_int (by rw [HE.out, HS.out]; rfl), hbel⟩
  · have HE : Hid (clashL p = -1) := clash_no (fun h => hp h.2)
    have HP := Lib.hid hp; clear hp
    go_enter Try.func29, Try.ntmps29
    go_wp2_with (go_at_call 59; refine (spec_l1Perm A n c p _ hx hc hn).mono ?_; rintro e w1 ⟨b1, rfl, hb1, m1, rfl⟩; have hbf : b1 = false := (by cases b1 with | false => rfl | true => exact absurd (hb1.out.1 rfl) HP.out); subst hbf)
    go_ret
    exact ⟨ret_int HE.out.symm, below_drewN (Below.refl _ _) _⟩
end Go.Proofs.Ytiahpaakkijejaa
