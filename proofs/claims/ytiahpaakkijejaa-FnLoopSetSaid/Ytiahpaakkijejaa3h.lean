/- StepSet of both. Condition: at most 1048576 numbers. -/
import Derived.Test.Ytiahpaakkijejaa3e
import Derived.Test.YtiahpaakkijejaaScat
namespace Go.Proofs.Ytiahpaakkijejaa
open Go.RowKit
set_option linter.unusedSimpArgs false
set_option linter.unusedVariables false
open Classical in
noncomputable def stepSetL (p : List Int) : List Bool × Bool := if clashL p = 0 then (setN p.length (stepsI p.length).toNat (pF p), true) else ([], false)
theorem ss_no {p : List Int} (h : ¬ clashL p = 0) : stepSetL p = ([], false) := by unfold stepSetL; rw [if_neg h]
theorem ss_yes {p : List Int} {n st : Nat} (h : clashL p = 0) (hl : p.length = n) (hs : stepsI n = st) : stepSetL p = (setN n st (pF p), true) := by
  subst hl
  unfold stepSetL; rw [if_pos h, hs]; simp
theorem clash_perm {p : List Int} (h : clashL p = 0) : ∃ n st, p.length = n ∧ NetOk n st ∧ stepsI n = st ∧ PermOk p ∧ NoClash n st (pF p) ∧ sManyI n = ((n / 2 * st : Nat) : Int) := by
  by_cases hp : PermOk p
  · rcases lines_cases p.length with ⟨h1, -⟩ | ⟨n, st, hn, hN, h1, -, h3⟩
    · rw [clash_no (fun h => by omega)] at h; omega
    · have hl : p.length = n := by omega
      rw [hn] at h1
      rw [clash_yes hl hN h1 hp] at h
      rw [hn] at h3
      exact ⟨n, st, hl, hN, h1, hp, (clash_zero (pF p)).1 (by omega), h3⟩
  · rw [clash_no (fun h => hp h.2)] at h; omega
theorem ss_len (p : List Int) : ∀ (h : p.length ≤ 1048576), (stepSetL p).1.length ≤ 1048576 := fun h => by
  by_cases hc : clashL p = 0
  · obtain ⟨n, st, hl, hN, hs, -⟩ := clash_perm hc
    rw [ss_yes hc hl hs]
    have := net_bd hN
    show (setN _ _ _).length ≤ _
    rw [setN_len]
    have := Nat.mul_le_mul (show n / 2 ≤ 4 by omega) (show st ≤ 3 by omega)
    omega
  · rw [ss_no hc]; simp
/-- The writes of the program, in their order: the input q / st, the step q % st. -/
def stI (n st : Nat) (p : Nat → Nat) (q : Nat) : Option (Nat × Bool) := some (idxS n st p (q / st) (q % st), crossB n st p (q / st) (q % st))
def stS (n st : Nat) (p : Nat → Nat) (q : Nat) : Option (Nat × Bool) := if crossB n st p (q / st) (q % st) = true then some (idxS n st p (q / st) (q % st), true) else none
theorem divmod {st i s : Nat} (h : s < st) : (i * st + s) / st = i ∧ (i * st + s) % st = s := by
  constructor
  · rw [Nat.mul_comm, Nat.mul_add_div (by omega), Nat.div_eq_of_lt h]; rfl
  · rw [Nat.mul_comm, Nat.mul_add_mod, Nat.mod_eq_of_lt h]
theorem pair_lt {n st q : Nat} (h : q < n * st) : q / st < n ∧ q % st < st := by
  have h0 : 0 < st := by
    rcases Nat.eq_zero_or_pos st with h1 | h1
    · subst h1; simp at h
    · exact h1
  exact ⟨Nat.div_lt_of_lt_mul (by rw [Nat.mul_comm]; exact h), Nat.mod_lt _ h0⟩
theorem pair_in {n st i s : Nat} (hi : i < n) (hs : s < st) : i * st + s < n * st := by
  have := Nat.mul_le_mul_right st (show i + 1 ≤ n by omega)
  rw [Nat.add_mul] at this; omega
theorem stI_all {n st : Nat} {p : Nat → Nat} (h : NetOk n st) (hc : NoClash n st p) : scat (List.replicate (n / 2 * st) false) (stI n st p) (n * st) = setN n st p := by
  refine scat_all (F := finB n st p) (by simp) (fun q hq i x hx => ?_) (fun k hk => ?_)
  · obtain ⟨h1, h2⟩ := pair_lt hq
    unfold stI at hx
    injection hx with hx; injection hx with hx1 hx2
    rw [← hx1, ← hx2, fin_cross p h hc h1 h2]
  · obtain ⟨i, s, hi, hs, he⟩ := idx_meets p h hc hk
    obtain ⟨e1, e2⟩ := divmod (i := i) hs
    exact ⟨i * st + s, pair_in hi hs, _, by unfold stI; rw [e1, e2, he]⟩
theorem stS_all {n st : Nat} {p : Nat → Nat} (h : NetOk n st) (hc : NoClash n st p) : scat (List.replicate (n / 2 * st) false) (stS n st p) (n * st) = setN n st p := by
  refine scat_marks (fun q hq i x hx => ?_) (fun k hk => ?_)
  · unfold stS at hx
    split at hx
    · injection hx with hx; injection hx with hx1 hx2; exact hx2.symm
    · cases hx
  · constructor
    · intro hf
      obtain ⟨i, s, hi, hs, he⟩ := idx_meets p h hc hk
      obtain ⟨e1, e2⟩ := divmod (i := i) hs
      rw [← he, fin_cross p h hc hi hs] at hf
      exact ⟨i * st + s, pair_in hi hs, true, by unfold stS; rw [e1, e2, if_pos hf, he]⟩
    · rintro ⟨q, hq, x, hx⟩
      obtain ⟨h1, h2⟩ := pair_lt hq
      unfold stS at hx
      split at hx
      · rename_i hcr
        injection hx with hx; injection hx with hx1 hx2
        rw [← hx1, fin_cross p h hc h1 h2]; exact hcr
      · cases hx
theorem cross_is {n st : Nat} {p : Nat → Nat} {i s U V : Nat} (hU : shuf n (way n st p i s) = U) (hV : way n st p i (s + 1) = V) : crossB n st p i s = (U != V) := by unfold crossB; rw [hU, hV]
set_option maxHeartbeats 4000000 in
theorem impl_StepSet (A : Option Addr) (n c : Nat) (p : List Int) (w : World) (hx : RdL iv w A n p) (hc : n ≤ c) (hn : n ≤ 1048576) :
    Calls Try.prog 39 #[.slice A n c] w (RetOB bv 4 (stepSetL p) w) := by
  have HL := hx.len
  obtain ⟨VC, HVC⟩ : ∃ VC, Hid (clashL p = VC) := ⟨_, rfl⟩
  by_cases h0 : VC = 0
  · subst h0
    obtain ⟨n', st, hl, hN, hs, hp, hcl, h3⟩ := clash_perm HVC.out
    obtain rfl : n' = n := by rw [← hl, HL.out]
    obtain ⟨b1, b2, b3, b4⟩ := net_bd hN
    have HE := Lib.hid (ss_yes HVC.out hl hs)
    have HN := Lib.hid hN
    have HS := Lib.hid hs
    have HP := Lib.hid hp
    have HC := Lib.hid hcl
    obtain ⟨M, HM⟩ : ∃ M, Hid (n' / 2 * st = M) := ⟨_, rfl⟩
    rw [HM.out] at h3
    have H3 := Lib.hid h3
    have hM12 : M ≤ 12 := by rw [← HM.out]; exact Nat.mul_le_mul (show n' / 2 ≤ 4 by omega) (show st ≤ 3 by omega)
    clear hl hN hs hp hcl h3
    obtain ⟨h, hh⟩ : ∃ h, n' / 2 = h := ⟨_, rfl⟩
    have hq2 : (n' : Int) / 2 = (h : Int) := by omega
    have HH := Lib.hid hh
    clear hh
    have hmk := run_make_row' (P := Try.prog) 31 4 (.bool false) 1 Try.underlying31 info_bool rfl .i64 .i64 M (by omega) (by omega)
    go_enter Try.func39, Try.ntmps39
    go_wp2_with (first
      | (go_at_call 31; refine (impl_StepClashes A n' c p _ hx hc hn).mono ?_; rintro e w1 ⟨rfl, B1⟩; rw [HVC.out])
      | (go_at_call 53; refine (impl_StepMany n' _).mono ?_; rintro e w2 ⟨rfl, m2, rfl⟩; rw [H3.out])
      | (go_at_call 61; refine (impl_waysOf A n' c st p _ (hx.below ((below_drewN B1 m2).alloc (by have := B1.size; simpa using this) _) (Nat.le_refl _)) HN.out HS.out HP.out).mono ?_; rintro e w3 ⟨A3, c3, F3, rfl, O3, B3⟩))
    clear hmk
    have hb1s := B1.size
    obtain ⟨W1, HW1⟩ : ∃ W1, Hid (W1 = w1.drewN m2) := ⟨_, rfl⟩
    have OS0 : OwnL bv ((w1.drewN m2).alloc (.cells (madeCells #[.bool false] M) 4)) w.heap.size 4 (some ⟨w1.heap.size, 0, none⟩) M M (List.replicate M false) := OwnL.made (w1.drewN m2) false M (by unfold maxLen; omega) _ (by simpa using hb1s)
    have OS3 := OS0.below B3 (Nat.le_refl _)
    have BW3 : Below w.heap.size w w3 := bstep ((below_drewN B1 m2).alloc (by simpa using hb1s) _) B3
    have O3' : OwnT w3 (w1.heap.size + 1) F3 A3 n' c3 (waysL n' st p) := by have := O3; rwa [show ((w1.drewN m2).alloc (Obj.cells (madeCells #[Value.bool false] M) 4)).heap.size = w1.heap.size + 1 by simp] at this
    clear O3 B3 OS0 HW1
    have HSC := Lib.hid (stI_all HN.out HC.out)
    rw [HM.out] at HSC
    go_loopg [24] n' (fun g s24 wr => ∃ k : Nat, k ≤ n' ∧ g = n' - k ∧ s24 = .int .i64 k ∧ OwnL bv wr w.heap.size 4 (some ⟨w1.heap.size, 0, none⟩) M M (scat (List.replicate M false) (stI n' st (pF p)) (k * st)) ∧ OwnT wr (w1.heap.size + 1) F3 A3 n' c3 (waysL n' st p) ∧ Below w.heap.size w wr)
    case atStart => exact ⟨0, Nat.zero_le _, rfl, rfl, by simpa [scat] using OS3, O3', BW3⟩
    case round =>
      obtain ⟨k, hk, rfl, rfl, hown, htab, hbel⟩ := hrel
      by_cases hlt : k < n'
      · obtain ⟨wo, hwo⟩ : ∃ wo : World, wo = wr := ⟨_, rfl⟩
        subst hwo
        obtain ⟨gt, Ak, nk, ck, r, rfl, hgB, hgs, hgF, HR, gk1, gf1, hrow, hrne⟩ := htab.at hlt
        have hr : r = wayN n' st k (pF p k) := by have h := HR.out; rw [waysL_at hlt] at h; injection h with h; exact h.symm
        subst hr
        clear HR
        obtain rfl : nk = st := by rw [← hrow.len.out, wayN_len]
        go_wp2
        clear gk1 gf1
        go_loopg [8, 32] nk (fun g s8 s32 wr => ∃ s : Nat, s ≤ nk ∧ g = nk - s ∧ s32 = .int .i64 s ∧ s8 = .int .i64 (way n' nk (pF p) k s) ∧ OwnL bv wr w.heap.size 4 (some ⟨w1.heap.size, 0, none⟩) M M (scat (List.replicate M false) (stI n' nk (pF p)) (k * nk + s)) ∧ OwnT wr (w1.heap.size + 1) F3 (some ⟨gt, 0, none⟩) n' c3 (waysL n' nk p) ∧ OwnL iv wr (w1.heap.size + 1) 3 Ak nk ck (wayN n' nk k (pF p k)) ∧ Below w.heap.size w wr)
        case atStart => exact ⟨0, Nat.zero_le _, rfl, rfl, rfl, hown, htab, hrow, hbel⟩
        case round =>
          obtain ⟨s, hs, rfl, rfl, rfl, hown, htab, hrow, hbel⟩ := hrel
          by_cases hsl : s < nk
          · obtain ⟨bx, vx, rfl, hBx, hbx, HVX, gx, gfx⟩ := hrow.at hsl
            have hvx : vx = (way n' nk (pF p) k (s + 1) : Int) := by have h := HVX.out; rw [wayN_at hsl] at h; injection h with h; exact h.symm
            subst hvx
            clear HVX
            obtain ⟨L, HLN⟩ : ∃ L, Hid (way n' nk (pF p) k s = L) := ⟨_, rfl⟩
            have hL : L < n' := by rw [← HLN.out]; exact wayTo_lt HN.out hlt s
            obtain ⟨V, HV⟩ : ∃ V, Hid (way n' nk (pF p) k (s + 1) = V) := ⟨_, rfl⟩
            have hV : V < n' := by rw [← HV.out]; exact wayTo_lt HN.out hlt (s + 1)
            obtain ⟨U, HU⟩ : ∃ U, Hid (shuf n' L = U) := ⟨_, rfl⟩
            have HCR : Hid (crossB n' nk (pF p) k s = (U != V)) := cross_is (by rw [HLN.out, HU.out]) HV.out
            have hidx := idxS_lt (pF p) HN.out hlt hsl
            rw [HM.out] at hidx
            have hie : idxS n' nk (pF p) k s = s * (n' / 2) + V / 2 := by unfold idxS; rw [HV.out]
            have hmul8 : s * (n' / 2) ≤ 8 := by have := Nat.mul_le_mul (show s ≤ 2 by omega) (show n' / 2 ≤ 4 by omega); omega
            rw [HH.out] at hie hmul8
            obtain ⟨X, hXe⟩ : ∃ X : Nat, s * h = X := ⟨_, rfl⟩
            obtain ⟨Z, hZe⟩ : ∃ Z : Nat, V / 2 = Z := ⟨_, rfl⟩
            rw [hXe, hZe] at hie
            have hmul : (s : Int) * (h : Int) = (X : Int) := by rw [← hXe]; simp
            have hv2 : (V : Int) / 2 = (Z : Int) := by omega
            rw [hXe] at hmul8
            rw [hie] at hidx
            have HIE := Lib.hid hie
            clear hXe hZe hie
            obtain ⟨e1, e2⟩ := divmod (i := k) hsl
            have HST : Hid (stI n' nk (pF p) (k * nk + s) = some (X + Z, U != V)) := by
              show _ = _
              unfold stI; rw [e1, e2, HIE.out, HCR.out]
            clear e1 e2
            have HSS := Lib.hid (scat_some (d := List.replicate M false) HST.out)
            obtain ⟨g', y, hA, hB, hg', HY, gc, gf⟩ := hown.at (k := X + Z) hidx
            injection hA with hA; injection hA with hA; subst hA
            rw [HLN.out]
            rw [HV.out] at gx
            by_cases hUV : U = V
            · have HB : Hid ((U != V) = false) := by show _ = _; simp [hUV]
              have hz : ((U : Int) != (V : Int)) = false := by simp [hUV]
              clear hUV
              go_wp2_with (go_at_call 54; refine (impl_shuffled n' nk L _ HN.out hL).mono ?_; rintro e w4 ⟨rfl, m4, rfl⟩; rw [HU.out])
              go_roundg (nk - (s + 1))
              case rel => exact ⟨s + 1, by omega, rfl, by go_num, by rw [HV.out], by rw [← Nat.add_assoc, HSS.out, HB.out]; exact OwnL.set (hown.drewN m4) (X + Z) false, (htab.drewN m4).far _ _ (by show w1.heap.size < _ ∨ _; omega), (hrow.drewN m4).far _ _ (by rw [blk_some]; show some bx ≠ some w1.heap.size; intro h; injection h with h; omega), (below_drewN hbel m4).setCell hB _⟩
              case measure => omega
            · have HB : Hid ((U != V) = true) := by show _ = _; simp [hUV]
              have hz : ((U : Int) != (V : Int)) = true := by simp; omega
              clear hUV
              go_wp2_with (go_at_call 54; refine (impl_shuffled n' nk L _ HN.out hL).mono ?_; rintro e w4 ⟨rfl, m4, rfl⟩; rw [HU.out])
              go_roundg (nk - (s + 1))
              case rel => exact ⟨s + 1, by omega, rfl, by go_num, by rw [HV.out], by rw [← Nat.add_assoc, HSS.out, HB.out]; exact OwnL.set (hown.drewN m4) (X + Z) true, (htab.drewN m4).far _ _ (by show w1.heap.size < _ ∨ _; omega), (hrow.drewN m4).far _ _ (by rw [blk_some]; show some bx ≠ some w1.heap.size; intro h; injection h with h; omega), (below_drewN hbel m4).setCell hB _⟩
              case measure => omega
          · obtain rfl : s = nk := by omega
            go_wp2
            go_roundg (n' - (k + 1))
            case rel => exact ⟨k + 1, by omega, rfl, by go_num, by rw [show (k + 1) * s = k * s + s by rw [Nat.add_mul]; omega]; exact hown, htab, hbel⟩
            case measure => omega
      · go_wp2
        go_ret2
        obtain rfl : k = n' := by omega
        exact RetOB.mk _ HE.out (by rw [← HSC.out]; exact hown) hbel
  · have HE : Hid (stepSetL p = ([], false)) := ss_no (by rw [HVC.out]; exact h0)
    have hz : (VC != 0) = true := by simp [h0]
    clear h0
    go_enter Try.func39, Try.ntmps39
    go_wp2_with (go_at_call 31; refine (impl_StepClashes A n c p _ hx hc hn).mono ?_; rintro e w1 ⟨rfl, B1⟩; rw [HVC.out])
    go_ret2
    exact RetOB.mk [] HE.out OwnL.nil B1
theorem shuf_mod2 {n st V : Nat} (h : NetOk n st) (hV : V < n) : (2 * (V : Int)) % n + (2 * (V : Int)) / n = (shuf n V : Int) := by
  unfold shuf
  rcases h with ⟨rfl, rfl⟩ | ⟨rfl, rfl⟩ | ⟨rfl, rfl⟩ <;> split <;> omega
theorem half_mul2 {n st s : Nat} (h : NetOk n st) (hs : s < st) : s * n / 2 = s * (n / 2) ∧ s * n ≤ 16 := by
  rcases h with ⟨rfl, rfl⟩ | ⟨rfl, rfl⟩ | ⟨rfl, rfl⟩ <;> omega
set_option maxHeartbeats 4000000 in
theorem spec_StepSet (A : Option Addr) (n c : Nat) (p : List Int) (w : World) (hx : RdL iv w A n p) (hc : n ≤ c) (hn : n ≤ 1048576) :
    Calls Try.prog 38 #[.slice A n c] w (RetOB bv 4 (stepSetL p) w) := by
  have HL := hx.len
  obtain ⟨VC, HVC⟩ : ∃ VC, Hid (clashL p = VC) := ⟨_, rfl⟩
  by_cases h0 : VC = 0
  · subst h0
    obtain ⟨n', st, hl, hN, hs, hp, hcl, h3⟩ := clash_perm HVC.out
    obtain rfl : n' = n := by rw [← hl, HL.out]
    obtain ⟨b1, b2, b3, b4⟩ := net_bd hN
    have HE := Lib.hid (ss_yes HVC.out hl hs)
    have HN := Lib.hid hN
    have HS := Lib.hid hs
    have HP := Lib.hid hp
    have HC := Lib.hid hcl
    obtain ⟨M, HM⟩ : ∃ M, Hid (n' / 2 * st = M) := ⟨_, rfl⟩
    rw [HM.out] at h3
    have H3 := Lib.hid h3
    have hM12 : M ≤ 12 := by rw [← HM.out]; exact Nat.mul_le_mul (show n' / 2 ≤ 4 by omega) (show st ≤ 3 by omega)
    clear hl hN hs hp hcl h3
    have hmk := run_make_row' (P := Try.prog) 31 4 (.bool false) 1 Try.underlying31 info_bool rfl .i64 .i64 M (by omega) (by omega)
    have HSC := Lib.hid (stS_all HN.out HC.out)
    rw [HM.out] at HSC
    go_enter Try.func38, Try.ntmps38
    go_wp2_with (first
      | (go_at_call 29; refine (spec_StepClashes A n' c p _ hx hc hn).mono ?_; rintro e w1 ⟨rfl, B1⟩; rw [HVC.out])
      | (go_at_call 52; refine (spec_StepMany n' _).mono ?_; rintro e w2 ⟨rfl, m2, rfl⟩; rw [H3.out]))
    clear hmk
    have hb1s := B1.size
    have OS0 : OwnL bv ((w1.drewN m2).alloc (.cells (madeCells #[.bool false] M) 4)) w.heap.size 4 (some ⟨w1.heap.size, 0, none⟩) M M (List.replicate M false) := OwnL.made (w1.drewN m2) false M (by unfold maxLen; omega) _ (by simpa using hb1s)
    have BW0 : Below w.heap.size w ((w1.drewN m2).alloc (.cells (madeCells #[.bool false] M) 4)) := (below_drewN B1 m2).alloc (by simpa using hb1s) _
    go_loopg [6, 7, 8, 10] n' (fun g s6 s7 s8 s10 wr => ∃ k : Nat, k ≤ n' ∧ g = n' - k ∧ s6 = .int .i64 k ∧ OwnL bv wr w.heap.size 4 (some ⟨w1.heap.size, 0, none⟩) M M (scat (List.replicate M false) (stS n' st (pF p)) (k * st)) ∧ Below w.heap.size w wr)
    case atStart => exact ⟨0, Nat.zero_le _, rfl, rfl, by simpa [scat] using OS0, BW0⟩
    case round =>
      obtain ⟨k, hk, rfl, rfl, hown, hbel⟩ := hrel
      by_cases hlt : k < n'
      · obtain ⟨wo, hwo⟩ : ∃ wo : World, wo = wr := ⟨_, rfl⟩
        subst hwo
        obtain ⟨b, off, x, rfl, HX, gx⟩ := (hx.below hbel (Nat.le_refl _)).at hlt
        have HPF : Hid (x = (pF p k : Int) ∧ pF p k < n') := by
          have h1 := pF_some HP.out (i := k) (by rw [HL.out]; exact hlt)
          rw [HX.out] at h1
          show _ ∧ _
          exact ⟨(by have := h1.1; injection this), by rw [← HL.out]; exact h1.2⟩
        go_wp2_with fail
        refine (spec_StepWay n' k x _).mono ?_
        rintro e w2 ⟨A2, n2, c2, ys, t, rfl, HE2, O2, B2⟩
        have hy : ys = wayN n' st k (pF p k) := by
          have h1 := HE2.out
          rw [HPF.out.1, way_yes HN.out hlt HPF.out.2 HS.out] at h1
          injection h1 with h1 h2
          exact h1.symm
        subst hy
        clear HE2 gx
        obtain rfl : n2 = st := by rw [← O2.len.out, wayN_len]
        have hown2 := hown.below B2 (Nat.le_refl _)
        have hgo := (hown.lt (g := w1.heap.size) rfl).2
        have hB2s := bstep hbel B2
        go_wp2
        go_loopg [7, 10] n2 (fun g s7 s10 wr => ∃ s : Nat, s ≤ n2 ∧ g = n2 - s ∧ s10 = .int .i64 s ∧ s7 = .int .i64 (way n' n2 (pF p) k s) ∧ OwnL bv wr w.heap.size 4 (some ⟨w1.heap.size, 0, none⟩) M M (scat (List.replicate M false) (stS n' n2 (pF p)) (k * n2 + s)) ∧ OwnL iv wr wo.heap.size 3 A2 n2 c2 (wayN n' n2 k (pF p k)) ∧ Below w.heap.size w wr)
        case atStart => exact ⟨0, Nat.zero_le _, rfl, rfl, rfl, hown2, O2, hB2s⟩
        case round =>
          obtain ⟨s, hs, rfl, rfl, rfl, hown, hrow, hbel⟩ := hrel
          by_cases hsl : s < n2
          · obtain ⟨bx, vx, rfl, hBx, hbx, HVX, gx, gfx⟩ := hrow.at hsl
            have hvx : vx = (way n' n2 (pF p) k (s + 1) : Int) := by have h := HVX.out; rw [wayN_at hsl] at h; injection h with h; exact h.symm
            subst hvx
            clear HVX
            obtain ⟨L, HLN⟩ : ∃ L, Hid (way n' n2 (pF p) k s = L) := ⟨_, rfl⟩
            have hL : L < n' := by rw [← HLN.out]; exact wayTo_lt HN.out hlt s
            obtain ⟨V, HV⟩ : ∃ V, Hid (way n' n2 (pF p) k (s + 1) = V) := ⟨_, rfl⟩
            have hV : V < n' := by rw [← HV.out]; exact wayTo_lt HN.out hlt (s + 1)
            obtain ⟨U, HU⟩ : ∃ U, Hid (shuf n' L = U) := ⟨_, rfl⟩
            have hU : U < n' := by rw [← HU.out]; exact shuf_lt HN.out hL
            have HCR : Hid (crossB n' n2 (pF p) k s = (U != V)) := cross_is (by rw [HLN.out, HU.out]) HV.out
            have hUV2 : U / 2 = V / 2 := by
              have h1 : way n' n2 (pF p) k (s + 1) / 2 = shuf n' (way n' n2 (pF p) k s) / 2 := way_shuf HN.out hlt s
              rw [HLN.out, HU.out, HV.out] at h1; exact h1.symm
            have hidx := idxS_lt (pF p) HN.out hlt hsl
            rw [HM.out] at hidx
            have hie : idxS n' n2 (pF p) k s = s * (n' / 2) + V / 2 := by unfold idxS; rw [HV.out]
            rw [← hUV2] at hie
            clear hUV2
            obtain ⟨hm2, hm16⟩ := half_mul2 HN.out hsl
            obtain ⟨X, hXe⟩ : ∃ X : Nat, s * (n' / 2) = X := ⟨_, rfl⟩
            obtain ⟨Z, hZe⟩ : ∃ Z : Nat, U / 2 = Z := ⟨_, rfl⟩
            obtain ⟨Y, hYe⟩ : ∃ Y : Nat, s * n' = Y := ⟨_, rfl⟩
            rw [hXe, hZe] at hie
            rw [hYe, hXe] at hm2
            rw [hYe] at hm16
            have hmul : (s : Int) * (n' : Int) = (Y : Int) := by rw [← hYe]; simp
            have hy2 : (Y : Int) / 2 = (X : Int) := by omega
            have hu2 : (U : Int) / 2 = (Z : Int) := by omega
            rw [hie] at hidx
            have HIE := Lib.hid hie
            clear hXe hZe hYe hie hm2
            have hX8 : X ≤ 8 := by omega
            obtain ⟨e1, e2⟩ := divmod (i := k) hsl
            have HST : Hid (stS n' n2 (pF p) (k * n2 + s) = if (U != V) = true then some (X + Z, true) else none) := by
              show _ = _
              unfold stS; rw [e1, e2, HIE.out, HCR.out]
            clear e1 e2
            obtain ⟨g', y, hA, hB, hg', HY, gc, gf⟩ := hown.at (k := X + Z) hidx
            injection hA with hA; injection hA with hA; subst hA
            rw [HLN.out]
            rw [HV.out] at gx
            have hsm := shuf_mod2 HN.out hL
            rw [HU.out] at hsm
            have HSM := Lib.hid hsm; clear hsm
            have q1 : (0 : Int) ≤ 2 * (L : Int) % (n' : Int) := Int.emod_nonneg _ (by omega)
            have q2 : 2 * (L : Int) % (n' : Int) < (n' : Int) := Int.emod_lt_of_pos _ (by omega)
            have q3 : (0 : Int) ≤ 2 * (L : Int) / (n' : Int) := Int.ediv_nonneg (by omega) (by omega)
            have q4 : 2 * (L : Int) / (n' : Int) ≤ 100 := by have := Int.ediv_le_self (a := 2 * (L : Int)) (n' : Int) (by omega); omega
            have q5 : ¬ (n' : Int) = 0 := by omega
            have v1 : IntKind.i64.wrap (2 * (L : Int)) = 2 * (L : Int) := IntWalk.i64_in _ (by omega)
            have v2 : IntKind.i64.wrap ((2 * (L : Int)).tdiv (n' : Int)) = 2 * (L : Int) / n' := IntWalk.i64_quo _ _ (by omega)
            have v3 : (2 * (L : Int)).tmod (n' : Int) = 2 * (L : Int) % n' := Int.tmod_eq_emod_of_nonneg (by omega)
            have v4 : IntKind.i64.wrap (2 * (L : Int) % n' + 2 * (L : Int) / n') = (U : Int) := by rw [HSM.out]; exact IntWalk.i64_in _ (by omega)
            by_cases hUV : U = V
            · have HB : Hid ((U != V) = false) := by show _ = _; simp [hUV]
              have hz : ((U : Int) != (V : Int)) = false := by simp [hUV]
              have HSS : Hid (scat (List.replicate M false) (stS n' n2 (pF p)) (k * n2 + s + 1) = scat (List.replicate M false) (stS n' n2 (pF p)) (k * n2 + s)) := scat_none (by rw [HST.out, HB.out]; rfl)
              clear hUV
              go_wp2
              go_quiet (fail)
              clear v1 v2 v3 v4
              go_wp2
              clear q1 q2 q3 q4
              go_roundg (n2 - (s + 1))
              case rel => exact ⟨s + 1, by omega, rfl, by go_num, by rw [HV.out], by rw [← Nat.add_assoc, HSS.out]; exact hown.drewN _, hrow.drewN _, below_drewN hbel _⟩
              case measure => omega
            · have HB : Hid ((U != V) = true) := by show _ = _; simp [hUV]
              have hz : ((U : Int) != (V : Int)) = true := by simp; omega
              have HSS : Hid (scat (List.replicate M false) (stS n' n2 (pF p)) (k * n2 + s + 1) = (scat (List.replicate M false) (stS n' n2 (pF p)) (k * n2 + s)).set (X + Z) true) := scat_some (by rw [HST.out, HB.out]; rfl)
              clear hUV
              go_wp2
              go_quiet (fail)
              clear v1 v2 v3 v4
              go_wp2
              clear q1 q2 q3 q4
              go_roundg (n2 - (s + 1))
              case rel => exact ⟨s + 1, by omega, rfl, by go_num, by rw [HV.out], by rw [← Nat.add_assoc, HSS.out]; exact OwnL.set (hown.drewN _) (X + Z) true, (hrow.drewN _).far _ _ (by rw [blk_some]; show some bx ≠ some w1.heap.size; intro h; injection h with h; omega), (below_drewN hbel _).setCell hB _⟩
              case measure => omega
          · obtain rfl : s = n2 := by omega
            go_wp2
            go_roundg (n' - (k + 1))
            case rel => exact ⟨k + 1, by omega, rfl, by go_num, by rw [show (k + 1) * s = k * s + s by rw [Nat.add_mul]; omega]; exact hown, hbel⟩
            case measure => omega
      · go_wp2
        go_ret2
        obtain rfl : k = n' := by omega
        exact RetOB.mk _ HE.out (by rw [← HSC.out]; exact hown) hbel
  · have HE : Hid (stepSetL p = ([], false)) := ss_no (by rw [HVC.out]; exact h0)
    have hz : (VC != 0) = true := by simp [h0]
    clear h0
    go_enter Try.func38, Try.ntmps38
    go_wp2_with (go_at_call 29; refine (spec_StepClashes A n c p _ hx hc hn).mono ?_; rintro e w1 ⟨rfl, B1⟩; rw [HVC.out])
    go_ret2
    exact RetOB.mk [] HE.out (OwnL.lit w1 [] (by simp) B1.size) (B1.alloc B1.size _)
end Go.Proofs.Ytiahpaakkijejaa
