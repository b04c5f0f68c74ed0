/- FillUp of the program. Condition: tables of at most 1048576 numbers. -/
import Derived.Test.Ythfjlellaojdmaa5u
namespace Go.Proofs.Ythfjlellaojdmaa
open Go.RowKit
set_option linter.unusedSimpArgs false
set_option linter.unusedVariables false
theorem rowS_traf {n k : Nat} {F : Nat → Nat → Int} (h0 : ∀ i j, 0 ≤ F i j ∧ F i j ≤ 6) (hk : k < n) : 0 ≤ rowS n F k ∧ rowS n F k ≤ mostF n F := ⟨sumN_nonneg fun j _ => (h0 k j).1, (mostTo_ge n F hk).1⟩
theorem colS_traf {n k : Nat} {F : Nat → Nat → Int} (h0 : ∀ i j, 0 ≤ F i j ∧ F i j ≤ 6) (hk : k < n) : 0 ≤ colS n F k ∧ colS n F k ≤ mostF n F := ⟨sumN_nonneg fun j _ => (h0 j k).1, (mostTo_ge n F hk).2⟩
set_option maxRecDepth 100000 in
set_option maxHeartbeats 4000000 in
theorem impl_FillUp (A : Option Addr) (n c : Nat) (t : List (List Int)) (w : World) (hx : RdT w A n t) (hc : n ≤ c) (hs : SmT t) :
    Calls Try.prog 28 #[.slice A n c] w (RetT (fillL t) w) := by
  have HL := hx.len
  have HS := Lib.hid hs; clear hs
  by_cases hT : TrafOk t
  · have HV : Hid (fillL t = tabF n (fillF n (fOf t))) := by show _ = _; rw [fillL_yes hT, HL.out]
    have h6 : n ≤ 6 := by rw [← HL.out]; exact hT.six
    have HB0 : Hid (∀ i j, 0 ≤ fOf t i j ∧ fOf t i j ≤ 6) := fun i j => hT.bd i j
    have HB : Hid (Bk n (fOf t)) := by have := hT.bd6; rw [HL.out] at this; exact this.k (by omega) (by omega)
    have hxF : RdT w A n (tabF n (fOf t)) := by have := hT.tab; rw [HL.out] at this; rw [← this]; exact hx
    have HLM : Hid (lineL t = mostF n (fOf t)) := by show _ = _; rw [lineL_yes hT, HL.out]
    have HT := Lib.hid hT; clear hT
    obtain ⟨F, hF⟩ : ∃ F, fOf t = F := ⟨_, rfl⟩
    rw [hF] at HB HB0 HV HLM hxF
    clear hF
    rw [HV.out]
    obtain ⟨M, HM⟩ : ∃ M, Hid (mostF n F = M) := ⟨_, rfl⟩
    have hMb : 0 ≤ M ∧ M ≤ 36 := by rw [← HM.out]; exact most_bd h6 fun i j _ _ => HB0.out i j
    obtain ⟨hM0, hM1⟩ := hMb
    have hmk := run_make_row' (P := Try.prog) 30 3 (.int .i64 0) 8 Try.underlying30 info_int rfl .i64 .i64 n (by omega) (by omega)
    go_enter Try.func28, Try.ntmps28
    go_wp2_with (first
      | (go_at_call 40; refine (retB_is (b := true) ⟨fun _ => HT.out, fun _ => rfl⟩ (impl_TrafficValid A n c t _ hx HS.out)).mono ?_; rintro e w1 ⟨rfl, m1, rfl⟩)
      | (go_at_call 18; refine (impl_LineMost A n c t _ (hx.drewN _) HS.out).mono ?_; rintro e w2 ⟨rfl, m2, rfl⟩; rw [HLM.out, HM.out]))
    go_loopg [24] n (fun g i wr => ∃ k : Nat, k ≤ n ∧ g = n - k ∧ i = .int .i64 k ∧ OwnL iv wr w.heap.size 3 (some ⟨w.heap.size, 0, none⟩) n n ((rowF n (fun k => M - rowS n F k)).take k ++ List.replicate (n - k) 0) ∧ OwnL iv wr w.heap.size 3 (some ⟨w.heap.size + 1, 0, none⟩) n n ((rowF n (fun k => M - colS n F k)).take k ++ List.replicate (n - k) 0) ∧ w.heap.size + 2 ≤ wr.heap.size ∧ Below w.heap.size w wr)
    case atStart =>
      have h1 := OwnL.made (emb := iv) (e := 3) (w.drewN (m1 + m2)) (0 : Int) n (by unfold maxLen; omega) w.heap.size (by simp)
      have h2 := OwnL.made (emb := iv) (e := 3) ((w.drewN (m1 + m2)).alloc (.cells (madeCells #[iv 0] n) 3)) (0 : Int) n (by unfold maxLen; omega) w.heap.size (by simp)
      exact ⟨0, Nat.zero_le _, rfl, rfl, by simpa using h1.alloc _, by simpa using h2, by simp, bbox (bbox (below_drewN (Below.refl _ _) _) (by simp) _) (by simp) _⟩
    case round =>
      obtain ⟨k, hk, rfl, rfl, hR, hC, hsz, hbel⟩ := hrel
      by_cases hlt : k < n
      · obtain ⟨g1, y1, hA, q1, q2, HY1, q3, q4⟩ := hR.at hlt
        injection hA with hA; injection hA with hA; subst hA
        obtain ⟨g2, y2, hA, q5, q6, HY2, q7, q8⟩ := hC.at hlt
        injection hA with hA; injection hA with hA; subst hA
        go_wp2_with fail
        refine (impl_rowSum A n c k F _ (hxF.below hbel (Nat.le_refl _)) hlt h6 HB.out).mono ?_
        rintro e w3 ⟨rfl, m3, rfl⟩
        obtain ⟨R, HR⟩ : ∃ R, Hid (rowS n F k = R) := ⟨_, rfl⟩
        have hRb := rowS_traf HB0.out hlt
        rw [HR.out, HM.out] at hRb
        obtain ⟨hRb1, hRb2⟩ := hRb
        rw [HR.out]
        go_wp2_with fail
        refine (impl_columnSum A n c k F _ (hxF.below (B := w.heap.size) (w' := (wr.drewN m3).setCell ⟨w.heap.size, k, none⟩ (.int .i64 (M - R))) ((below_drewN hbel _).setCell (Nat.le_refl _) _) (Nat.le_refl _)) hlt h6 HB.out).mono ?_
        rintro e w4 ⟨rfl, m4, rfl⟩
        obtain ⟨C, HC⟩ : ∃ C, Hid (colS n F k = C) := ⟨_, rfl⟩
        have hCb := colS_traf HB0.out hlt
        rw [HC.out, HM.out] at hCb
        obtain ⟨hCb1, hCb2⟩ := hCb
        rw [HC.out]
        have e7 : (wr.setCell ⟨w.heap.size, k, none⟩ (.int .i64 (M - R))).cell? ⟨w.heap.size + 1, k, none⟩ = some (iv y2) := by rw [World.cell?_setCell_other _ _ _ _ (fun e => by injection e with e; omega)]; exact q7
        go_wp2
        go_roundg (n - (k + 1))
        case rel =>
          have f1 := ((hR.set k (M - R)).far ⟨w.heap.size + 1, k, none⟩ (.int .i64 (M - C)) (fun e => by rw [blk_some] at e; injection e with e; simp at e))
          have f2 := ((hC.far ⟨w.heap.size, k, none⟩ (.int .i64 (M - R)) (fun e => by rw [blk_some] at e; injection e with e; simp at e)).set k (M - C))
          rw [set_fill (rowF_len _ _) hlt (by rw [rowF_at hlt, HR.out])] at f1
          rw [set_fill (rowF_len _ _) hlt (by rw [rowF_at hlt, HC.out])] at f2
          exact ⟨k + 1, by omega, rfl, by go_num, f1, f2, by simpa using hsz, (below_drewN ((below_drewN hbel m3).setCell (Nat.le_refl _) _) m4).setCell (Nat.le_succ _) _⟩
        case measure => omega
      · obtain rfl : k = n := by omega
        have e1 : ∀ f : Nat → Int, (rowF k f).take k ++ List.replicate (k - k) 0 = rowF k f := fun f => by rw [Nat.sub_self, List.take_of_length_le (by rw [rowF_len]; exact Nat.le_refl _)]; simp
        rw [e1] at hR hC
        go_wp2_with fail
        refine (impl_newTable k _ h6).mono ?_
        rintro e w5 ⟨A5, c5, rfl, h5, b5⟩
        have z5 := b5.size
        have hR5 := hR.below b5 (Nat.le_refl _)
        have hC5 := hC.below b5 (Nat.le_refl _)
        have B5 := bstep hbel b5
        obtain ⟨S5, hS5⟩ : ∃ S, wr.heap.size = S := ⟨_, rfl⟩
        obtain ⟨F5, hF5⟩ : ∃ S, w5.heap.size = S := ⟨_, rfl⟩
        rw [hS5, hF5] at h5
        rw [hS5] at hsz
        clear hR hC hbel b5 z5 hS5 hF5 hmk
        go_wp2
        go_loopg [49] k (fun g i wr => ∃ a : Nat, a ≤ k ∧ g = k - a ∧ i = .int .i64 a ∧ OwnT wr S5 F5 A5 k c5 (tabF k (fillK k F M a)) ∧ OwnL iv wr w.heap.size 3 (some ⟨w.heap.size, 0, none⟩) k k (rowF k (roomR k F M (fillK k F M a))) ∧ OwnL iv wr w.heap.size 3 (some ⟨w.heap.size + 1, 0, none⟩) k k (rowF k (roomC k F M (fillK k F M a))) ∧ Below w.heap.size w wr)
        case atStart =>
          have z : ∀ a, sumN (fun _ => (0 : Int)) a = 0 := sumN_zero
          exact ⟨0, Nat.zero_le _, rfl, rfl, h5, by rw [rowF_congr (g := fun a => M - rowS k F a) (fun a _ => by unfold roomR rowS; show _ - sumN (fun _ => (0 : Int)) k = _; rw [z]; omega)]; exact hR5, by rw [rowF_congr (g := fun a => M - colS k F a) (fun a _ => by unfold roomC colS; show _ - sumN (fun _ => (0 : Int)) k = _; rw [z]; omega)]; exact hC5, B5⟩
        case round =>
          clear h5 hR5 hC5 B5
          obtain ⟨a, ha, rfl, rfl, hown, hR, hC, hbel⟩ := hrel
          by_cases hal : a < k
          · obtain ⟨g, gk, ck2, y, rfl, q1, q2, q3, q4, q5, q6, q7, q8, q9, HY, q10, q11, HP⟩ := hown.atF hal hal
            clear q10 q11 HP HY q6 q7 q8 q9
            go_wp2
            go_loopg [57] k (fun g' i wr => ∃ j : Nat, j ≤ k ∧ g' = k - j ∧ i = .int .i64 j ∧ OwnT wr S5 F5 (some ⟨g, 0, none⟩) k c5 (tabF k (fillJ k F M (fillK k F M a) a j)) ∧ OwnL iv wr w.heap.size 3 (some ⟨w.heap.size, 0, none⟩) k k (rowF k (roomR k F M (fillJ k F M (fillK k F M a) a j))) ∧ OwnL iv wr w.heap.size 3 (some ⟨w.heap.size + 1, 0, none⟩) k k (rowF k (roomC k F M (fillJ k F M (fillK k F M a) a j))) ∧ Below w.heap.size w wr)
            case atStart => exact ⟨0, Nat.zero_le _, rfl, rfl, hown, hR, hC, hbel⟩
            case round =>
              clear hown hR hC hbel q4
              obtain ⟨j, hj, rfl, rfl, hown, hR, hC, hbel⟩ := hrel
              by_cases hjl : j < k
              · have HI : Hid (FillInv k F M (fillJ k F M (fillK k F M a) a j) a j) := by have := fill_at (f := F) hal (Nat.le_of_lt hjl); rwa [HM.out] at this
                have HN : Hid (fillJ k F M (fillK k F M a) a (j + 1) = upd (fillJ k F M (fillK k F M a) a j) a j (min (roomR k F M (fillJ k F M (fillK k F M a) a j) a) (roomC k F M (fillJ k F M (fillK k F M a) a j) j))) := rfl
                obtain ⟨Y, hY⟩ : ∃ Y, fillJ k F M (fillK k F M a) a j = Y := ⟨_, rfl⟩
                rw [hY] at hown hR hC HI HN
                clear hY
                have hbR := HI.out.bdR (fun i j _ _ => (HB0.out i j).1) hal
                have hbC := HI.out.bdC (fun i j _ _ => (HB0.out i j).1) hjl
                obtain ⟨gu, x1, hA, p1, p2, HX1, p3, p4⟩ := hR.atF hal
                injection hA with hA; injection hA with hA; subst hA
                obtain ⟨gv, x2, hA, p5, p6, HX2, p7, p8⟩ := hC.atF hjl
                injection hA with hA; injection hA with hA; subst hA
                rw [HX1.out] at hbR
                rw [HX2.out] at hbC
                obtain ⟨hb1, hb2⟩ := hbR
                obtain ⟨hb3, hb4⟩ := hbC
                by_cases hle : x1 ≤ x2
                · have hmin : min x1 x2 = x1 := Int.min_eq_left hle
                  have HMN := Lib.hid hmin; clear hmin
                  go_wp2
                  go_quiet (fail)
                  have HN2 := HN.out
                  rw [HX1.out, HX2.out, HMN.out] at HN2
                  have HN3 := Lib.hid HN2; clear HN2
                  have hownW := hown.drewN nq
                  have hRW := hR.drewN nq
                  have hCW := hC.drewN nq
                  have hbW := below_drewN hbel nq
                  have p3W : (wr.drewN nq).cell? ⟨w.heap.size, a, none⟩ = some (iv x1) := p3
                  have p7W : (wr.drewN nq).cell? ⟨w.heap.size + 1, j, none⟩ = some (iv x2) := p7
                  have p4W : (wr.drewN nq).frozen? ⟨w.heap.size, a, none⟩ = false := p4
                  have p8W : (wr.drewN nq).frozen? ⟨w.heap.size + 1, j, none⟩ = false := p8
                  clear hown hR hC hbel p1 p2 p3 p4 p5 p6 p7 p8
                  generalize wr.drewN nq = W at hownW hRW hCW hbW p3W p7W p4W p8W ⊢
                  obtain ⟨g', gk', ck', y', hA, r1, r2, r3, r4, r5, r6, r7, r8, r9, HY, r10, r11, HP⟩ := hownW.atF hal hjl
                  injection hA with hA; injection hA with hA; subst hA
                  have e1 : (W.setCell ⟨gk', j, none⟩ (.int .i64 x1)).cell? ⟨w.heap.size, a, none⟩ = some (iv x1) := by rw [World.cell?_setCell_other _ _ _ _ (fun e => by injection e with e; omega)]; exact p3W
                  have e2 : ((W.setCell ⟨gk', j, none⟩ (.int .i64 x1)).setCell ⟨w.heap.size, a, none⟩ (.int .i64 (x1 - x1))).cell? ⟨w.heap.size + 1, j, none⟩ = some (iv x2) := by
                    rw [World.cell?_setCell_other _ _ _ _ (fun e => by injection e with e; omega), World.cell?_setCell_other _ _ _ _ (fun e => by injection e with e; omega)]; exact p7W
                  have T3 := ((HP.out x1).far ⟨w.heap.size, a, none⟩ (.int .i64 (x1 - x1)) (.inl (by show w.heap.size < S5; omega))).far ⟨w.heap.size + 1, j, none⟩ (.int .i64 (x2 - x1)) (.inl (by show w.heap.size + 1 < S5; omega))
                  have R3 := ((hRW.far ⟨gk', j, none⟩ (.int .i64 x1) (fun e => by rw [blk_some] at e; injection e with e; simp at e; omega)).set a (x1 - x1)).far ⟨w.heap.size + 1, j, none⟩ (.int .i64 (x2 - x1)) (fun e => by rw [blk_some] at e; injection e with e; simp at e)
                  have C3 := ((hCW.far ⟨gk', j, none⟩ (.int .i64 x1) (fun e => by rw [blk_some] at e; injection e with e; simp at e; omega)).far ⟨w.heap.size, a, none⟩ (.int .i64 (x1 - x1)) (fun e => by rw [blk_some] at e; injection e with e; simp at e)).set j (x2 - x1)
                  have B3 := ((hbW.setCell (p := ⟨gk', j, none⟩) (by show w.heap.size ≤ gk'; omega) (.int .i64 x1)).setCell (p := ⟨w.heap.size, a, none⟩) (Nat.le_refl _) (.int .i64 (x1 - x1))).setCell (p := ⟨w.heap.size + 1, j, none⟩) (Nat.le_succ _) (.int .i64 (x2 - x1))
                  have e3 := HI.out.setR hal hjl x1
                  have e4 := HI.out.setC hal hjl x1
                  rw [HX1.out] at e3
                  rw [HX2.out] at e4
                  rw [e3] at R3
                  rw [e4] at C3
                  simp only [Int.sub_self] at T3 R3 C3 B3
                  clear e3 e4 hownW hRW hCW hbW
                  go_wp2
                  go_roundg (k - (j + 1))
                  case rel => exact ⟨j + 1, by omega, rfl, by go_num, by rw [HN3.out]; exact T3, by rw [HN3.out]; exact R3, by rw [HN3.out]; exact C3, B3⟩
                  case measure => omega
                · have hmin : min x1 x2 = x2 := Int.min_eq_right (by omega)
                  have HMN := Lib.hid hmin; clear hmin
                  have hlez : decide (x1 ≤ x2) = false := by simp; omega
                  go_wp2
                  go_quiet (fail)
                  have HN2 := HN.out
                  rw [HX1.out, HX2.out, HMN.out] at HN2
                  have HN3 := Lib.hid HN2; clear HN2
                  have hownW := hown.drewN nq
                  have hRW := hR.drewN nq
                  have hCW := hC.drewN nq
                  have hbW := below_drewN hbel nq
                  have p3W : (wr.drewN nq).cell? ⟨w.heap.size, a, none⟩ = some (iv x1) := p3
                  have p7W : (wr.drewN nq).cell? ⟨w.heap.size + 1, j, none⟩ = some (iv x2) := p7
                  have p4W : (wr.drewN nq).frozen? ⟨w.heap.size, a, none⟩ = false := p4
                  have p8W : (wr.drewN nq).frozen? ⟨w.heap.size + 1, j, none⟩ = false := p8
                  clear hown hR hC hbel p1 p2 p3 p4 p5 p6 p7 p8
                  generalize wr.drewN nq = W at hownW hRW hCW hbW p3W p7W p4W p8W ⊢
                  obtain ⟨g', gk', ck', y', hA, r1, r2, r3, r4, r5, r6, r7, r8, r9, HY, r10, r11, HP⟩ := hownW.atF hal hjl
                  injection hA with hA; injection hA with hA; subst hA
                  have e1 : (W.setCell ⟨gk', j, none⟩ (.int .i64 x2)).cell? ⟨w.heap.size, a, none⟩ = some (iv x1) := by rw [World.cell?_setCell_other _ _ _ _ (fun e => by injection e with e; omega)]; exact p3W
                  have e2 : ((W.setCell ⟨gk', j, none⟩ (.int .i64 x2)).setCell ⟨w.heap.size, a, none⟩ (.int .i64 (x1 - x2))).cell? ⟨w.heap.size + 1, j, none⟩ = some (iv x2) := by
                    rw [World.cell?_setCell_other _ _ _ _ (fun e => by injection e with e; omega), World.cell?_setCell_other _ _ _ _ (fun e => by injection e with e; omega)]; exact p7W
                  have T3 := ((HP.out x2).far ⟨w.heap.size, a, none⟩ (.int .i64 (x1 - x2)) (.inl (by show w.heap.size < S5; omega))).far ⟨w.heap.size + 1, j, none⟩ (.int .i64 (x2 - x2)) (.inl (by show w.heap.size + 1 < S5; omega))
                  have R3 := ((hRW.far ⟨gk', j, none⟩ (.int .i64 x2) (fun e => by rw [blk_some] at e; injection e with e; simp at e; omega)).set a (x1 - x2)).far ⟨w.heap.size + 1, j, none⟩ (.int .i64 (x2 - x2)) (fun e => by rw [blk_some] at e; injection e with e; simp at e)
                  have C3 := ((hCW.far ⟨gk', j, none⟩ (.int .i64 x2) (fun e => by rw [blk_some] at e; injection e with e; simp at e; omega)).far ⟨w.heap.size, a, none⟩ (.int .i64 (x1 - x2)) (fun e => by rw [blk_some] at e; injection e with e; simp at e)).set j (x2 - x2)
                  have B3 := ((hbW.setCell (p := ⟨gk', j, none⟩) (by show w.heap.size ≤ gk'; omega) (.int .i64 x2)).setCell (p := ⟨w.heap.size, a, none⟩) (Nat.le_refl _) (.int .i64 (x1 - x2))).setCell (p := ⟨w.heap.size + 1, j, none⟩) (Nat.le_succ _) (.int .i64 (x2 - x2))
                  have e3 := HI.out.setR hal hjl x2
                  have e4 := HI.out.setC hal hjl x2
                  rw [HX1.out] at e3
                  rw [HX2.out] at e4
                  rw [e3] at R3
                  rw [e4] at C3
                  simp only [Int.sub_self] at T3 R3 C3 B3
                  clear e3 e4 hownW hRW hCW hbW
                  go_wp2
                  go_roundg (k - (j + 1))
                  case rel => exact ⟨j + 1, by omega, rfl, by go_num, by rw [HN3.out]; exact T3, by rw [HN3.out]; exact R3, by rw [HN3.out]; exact C3, B3⟩
                  case measure => omega
              · go_wp2
                go_roundg (k - (a + 1))
                case rel =>
                  obtain rfl : j = k := by omega
                  exact ⟨a + 1, by omega, rfl, by go_num, hown, hR, hC, hbel⟩
                case measure => omega
          · go_wp2
            go_ret
            obtain rfl : a = k := by omega
            exact ⟨A5, a, c5, rfl, by have h9 : fillF a F = fillK a F M a := by unfold fillF; rw [HM.out]
                                      rw [h9]; exact (hown.mono (by omega)).tight, hbel⟩
  · have HV : Hid (fillL t = []) := fillL_no hT
    have HT := Lib.hid hT; clear hT
    go_enter Try.func28, Try.ntmps28
    go_wp2_with (go_at_call 40; refine (retB_is (b := false) ⟨fun h => by simp at h, fun h => absurd h HT.out⟩ (impl_TrafficValid A n c t _ hx HS.out)).mono ?_; rintro e w1 ⟨rfl, m1, rfl⟩)
    go_ret
    exact RetT.no HV.out (below_drewN (Below.refl _ _) _) 0
end Go.Proofs.Ythfjlellaojdmaa
