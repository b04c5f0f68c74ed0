/- FillUp of the reference. Condition: tables of at most 1048576 numbers. -/
import Derived.Test.Ythfjlellaojdmaa5u2
namespace Go.Proofs.Ythfjlellaojdmaa
open Go.RowKit
set_option linter.unusedSimpArgs false
set_option linter.unusedVariables false
theorem FillInv.small {n : Nat} {f : Nat → Nat → Int} {M : Int} {y : Nat → Nat → Int} {k j : Nat} (h : FillInv n f M y k j) (h0 : ∀ i j, i < n → j < n → 0 ≤ f i j) {a b : Nat} (ha : a < n) (hb : b < n) : 0 ≤ y a b ∧ y a b ≤ M := by
  refine ⟨h.pos a b ha hb, ?_⟩
  have h1 : y a b ≤ rowS n y a := sumN_ge (fun i hi => h.pos a i ha hi) hb
  have h2 := h.rr a ha
  have h3 : 0 ≤ rowS n f a := sumN_nonneg fun b hb => h0 a b ha hb
  unfold roomR at h2; omega
theorem OwnT.drewNSet {w : World} {B F : Nat} {A : Option Addr} {n c : Nat} {rows : List (List Int)} {p : Addr} {v : Value} (m : Nat) (h : OwnT (w.setCell p v) B F A n c rows) : OwnT ((w.drewN m).setCell p v) B F A n c rows := h.keep fun _ _ _ _ => rfl
theorem quiet_step {P : Program} {f : FuncId} {args : Array Value} {w : World} {n : Nat} {v : Value}
    (h : Calls P f args (w.drewN n) fun e w' => e = .returned v ∧ ∃ m, w' = (w.drewN n).drewN m) :
    Calls P f args (w.drewN n) fun e w'' => e = .returned v ∧ ∃ m, w'' = w.drewN m :=
  h.mono fun _ _ ⟨he, m, hm⟩ => ⟨he, n + m, by rw [hm, World.drewN_drewN]⟩
set_option maxRecDepth 100000 in
set_option maxHeartbeats 1000000 in
theorem spec_FillUp (A : Option Addr) (n c : Nat) (t : List (List Int)) (w : World) (hx : RdT w A n t) (hc : n ≤ c) (hs : SmT t) :
    Calls Try.prog 29 #[.slice A n c] w (RetT (fillL t) w) := by
  have HL := hx.len
  have hn : n ≤ 1048576 := by rw [← HL.out]; exact hs.1
  have HS := Lib.hid hs; clear hs
  have hT0 := OwnT.lit0 (B := w.heap.size) w (Nat.le_refl _)
  have hb0 := below_box w (.cells #[] 30)
  by_cases hT : TrafOk t
  · have HV : Hid (fillL t = tabF n (fillF n (fOf t))) := by show _ = _; rw [fillL_yes hT, HL.out]
    have h6 : n ≤ 6 := by rw [← HL.out]; exact hT.six
    have HB0 : Hid (∀ i j, 0 ≤ fOf t i j ∧ fOf t i j ≤ 6) := fun i j => hT.bd i j
    have HB : Hid (Bk n (fOf t)) := by have := hT.bd6; rw [HL.out] at this; exact this.k (by omega) (by omega)
    have hxF : RdT w A n (tabF n (fOf t)) := by have := hT.tab; rw [HL.out] at this; rw [← this]; exact hx
    have HLM : Hid (lineL t = mostF n (fOf t)) := by show _ = _; rw [lineL_yes hT, HL.out]
    have HT := Lib.hid hT; clear hT
    obtain ⟨F, hF⟩ : ∃ F, fOf t = F := ⟨_, rfl⟩
    rw [hF] at HB HB0 HV HLM hxF
    clear hF
    rw [HV.out]
    obtain ⟨M, HM⟩ : ∃ M, Hid (mostF n F = M) := ⟨_, rfl⟩
    have hMb : 0 ≤ M ∧ M ≤ 36 := by rw [← HM.out]; exact most_bd h6 fun i j _ _ => HB0.out i j
    obtain ⟨hM0, hM1⟩ := hMb
    have hmk := run_make_row' (P := Try.prog) 30 3 (.int .i64 0) 8 Try.underlying30 info_int rfl .i64 .i64 n (by omega) (by omega)
    go_enter Try.func29, Try.ntmps29
    go_wp2_with (go_at_call 52; refine (spec_LineMost A n c t _ (hx.below hb0 (Nat.le_refl _)) HS.out).mono ?_; rintro e w2 ⟨rfl, m2, rfl⟩; rw [HLM.out, HM.out])
    go_loopg [3, 5] n (fun g s3 i wr => ∃ (k : Nat) (A2 : Option Addr) (c2 : Nat), k ≤ n ∧ g = n - k ∧ i = .int .i64 k ∧ s3 = .slice A2 k c2 ∧ OwnT wr w.heap.size wr.heap.size A2 k c2 (List.replicate k (rowF n (fun _ => 0))) ∧ Below w.heap.size w wr)
    case atStart => exact ⟨0, _, _, Nat.zero_le _, rfl, rfl, rfl, hT0.tight.drewN m2, below_drewN hb0 _⟩
    case round =>
      obtain ⟨k, A2, c2, hk, rfl, rfl, rfl, hown, hbel⟩ := hrel
      by_cases hlt : k < n
      · have hz := hbel.size
        obtain ⟨hs, hown⟩ := hown
        have hO1 := OwnL.made (emb := iv) (e := 3) wr (0 : Int) n (by unfold maxLen; omega) wr.heap.size (Nat.le_refl _)
        have Bel5 := below_box wr (.cells (madeCells #[iv 0] n) 3)
        have OH := (hown.own.below Bel5 (Nat.le_refl _)).alloc (.cells #[hdv ⟨some ⟨wr.heap.size, 0, none⟩, n, n⟩] 30)
        have RH := rd_hd (wr.alloc (.cells (madeCells #[iv 0] n) 3)) (some ⟨wr.heap.size, 0, none⟩) n n
        have RH2 : RdL hdv ((wr.alloc (.cells (madeCells #[iv 0] n) 3)).alloc (.cells #[.slice (some ⟨wr.heap.size, 0, none⟩) n n] 30)) (some ⟨wr.heap.size + 1, 0, none⟩) 1 [⟨some ⟨wr.heap.size, 0, none⟩, n, n⟩] := by simpa using RH
        clear RH
        have z5 := Bel5.size
        go_wp2_with (first
          | (at_builtin; refine wpList_appLN (emb := hdv) _ rfl (.tmp 23) (.tmp 27) _ rfl w.heap.size 30 (.slice none 0 0) 24 Try.underlying23 info_row rfl A2 k c2 hs rfl OH _ 1 1 [⟨some ⟨wr.heap.size, 0, none⟩, n, n⟩] rfl RH2 hdv_one (k + 1) rfl _ rfl (by unfold maxLen; omega) (by omega) (by simp; omega) ?_; intro A6 c6 w6 O6 G6 L6)
          | fail)
        have z6 := G6.size
        simp at z6
        rw [rowF_zero] at hO1
        have hT6 := tab_push hown Bel5 hO1 hz O6 G6 L6 (by omega)
        have hb6 : Below w.heap.size w w6 := bgrown (bbox (bstep hbel Bel5) (by omega) _) G6 (by simp; omega) (fun g hg => (hown.own.lt hg).1)
        rw [← List.replicate_succ'] at hT6
        go_roundg (n - (k + 1))
        case rel => exact ⟨k + 1, A6, c6, by omega, rfl, by go_num, rfl, hT6, hb6⟩
        case measure => omega
      · obtain rfl : k = n := by omega
        rw [tabF_zero] at hown
        obtain ⟨Z, hZ⟩ : ∃ Z, wr.heap.size = Z := ⟨_, rfl⟩
        rw [hZ] at hown
        clear hZ hmk hT0 hb0
        go_wp2
        go_loopg [6] k (fun g i wr => ∃ a : Nat, a ≤ k ∧ g = k - a ∧ i = .int .i64 a ∧ OwnT wr w.heap.size Z A2 k c2 (tabF k (fillK k F M a)) ∧ Below w.heap.size w wr)
        case atStart => exact ⟨0, Nat.zero_le _, rfl, rfl, hown, hbel⟩
        case round =>
          clear hown hbel
          obtain ⟨a, ha, rfl, rfl, hown, hbel⟩ := hrel
          by_cases hal : a < k
          · go_wp2
            go_loopg [7] k (fun g' i wr => ∃ j : Nat, j ≤ k ∧ g' = k - j ∧ i = .int .i64 j ∧ OwnT wr w.heap.size Z A2 k c2 (tabF k (fillJ k F M (fillK k F M a) a j)) ∧ Below w.heap.size w wr)
            case atStart => exact ⟨0, Nat.zero_le _, rfl, rfl, hown, hbel⟩
            case round =>
              clear hown hbel
              obtain ⟨j, hj, rfl, rfl, hown, hbel⟩ := hrel
              by_cases hjl : j < k
              · have HI : Hid (FillInv k F M (fillJ k F M (fillK k F M a) a j) a j) := by have := fill_at (f := F) hal (Nat.le_of_lt hjl); rwa [HM.out] at this
                have HN : Hid (fillJ k F M (fillK k F M a) a (j + 1) = upd (fillJ k F M (fillK k F M a) a j) a j (min (roomR k F M (fillJ k F M (fillK k F M a) a j) a) (roomC k F M (fillJ k F M (fillK k F M a) a j) j))) := rfl
                obtain ⟨Y, hY⟩ : ∃ Y, fillJ k F M (fillK k F M a) a j = Y := ⟨_, rfl⟩
                rw [hY] at hown HI HN
                clear hY
                have HYB : Hid (Bk k Y) := fun i j hi hj => by have := HI.out.small (fun i j _ _ => (HB0.out i j).1) hi hj; omega
                obtain ⟨b, off, Ak, ck, rfl, hcF, hrF, hnF⟩ := hxF.atF hal
                have hbF := hrF.below hbel (Nat.le_refl _)
                have hcFw := (hbel.cell (p := ⟨b, off + a, none⟩) (World.block_lt_of_cell? _ _ hcF)).trans hcF
                obtain ⟨g, gk, ck2, y, rfl, q1, q2, q3, q4, q5, q6, q7, q8, q9, HY, q10, q11, HP⟩ := hown.atF hal hjl
                obtain ⟨b', off', Ak', ck', hA, hcY, hrY, hnY⟩ := hown.rd.atF hal
                injection hA with hA; injection hA with hA1 hA2; subst hA1 hA2
                rw [Nat.zero_add] at hcY
                rw [q4] at hcY
                injection hcY with hcY; injection hcY with hcY1 hcY2 hcY3; subst hcY1 hcY3
                have k1 : ∀ q, Calls Try.prog 54 #[.slice Ak k ck] (wr.drewN q) fun e w' => e = .returned (.int .i64 (rowS k F a)) ∧ ∃ m, w' = (wr.drewN q).drewN m := fun q => spec_l1Sum Ak k ck (F a) _ (hbF.drewN q) h6 (fun j hj => HB.out a j hal hj)
                have k2 : ∀ q, Calls Try.prog 54 #[.slice (some ⟨gk, 0, none⟩) k ck2] (wr.drewN q) fun e w' => e = .returned (.int .i64 (rowS k Y a)) ∧ ∃ m, w' = (wr.drewN q).drewN m := fun q => spec_l1Sum _ k ck2 (Y a) _ (hrY.drewN q) h6 (fun j hj => HYB.out a j hal hj)
                have hR1 := HI.out.rr a hal
                have hR2 := HI.out.rowpos a hal
                have hR3 := rowS_traf HB0.out hal
                have hC1 := HI.out.rc j hjl
                have hC2 := HI.out.colpos j hjl
                have hC3 := colS_traf HB0.out hjl
                have HNV : Hid (min (roomR k F M Y a) (roomC k F M Y j) = min (M - rowS k F a - rowS k Y a) (M - colS k F j - colS k Y j)) := rfl
                unfold roomR at hR1
                unfold roomC at hC1
                rw [HM.out] at hR3 hC3
                obtain ⟨R1, HR1⟩ : ∃ R, rowS k F a = R := ⟨_, rfl⟩
                obtain ⟨R2, HR2⟩ : ∃ R, rowS k Y a = R := ⟨_, rfl⟩
                obtain ⟨C1, HC1⟩ : ∃ R, colS k F j = R := ⟨_, rfl⟩
                obtain ⟨C2, HC2⟩ : ∃ R, colS k Y j = R := ⟨_, rfl⟩
                rw [HR1, HR2] at HNV hR1
                rw [HR1] at hR3 k1
                rw [HR2] at hR2 k2
                rw [HC1, HC2] at HNV hC1
                rw [HC1] at hC3
                rw [HC2] at hC2
                have HC1' := Lib.hid HC1
                have HC2' := Lib.hid HC2
                clear HR1 HR2 HC1 HC2
                obtain ⟨hR3, hR4⟩ := hR3
                obtain ⟨hC3, hC4⟩ := hC3
                have hw1 : IntKind.i64.wrap (M - R1) = M - R1 := IntWalk.i64_in _ (by omega)
                have hw2 : IntKind.i64.wrap (M - R1 - R2) = M - R1 - R2 := IntWalk.i64_in _ (by omega)
                have K1 := Lib.hid k1
                have K2 := Lib.hid k2
                clear k1 k2
                go_wp2_with fail
                go_quiet (first
                  | (go_at_call 54; with_reducible exact quiet_step (K1.out _))
                  | (go_at_call 54; with_reducible exact quiet_step (K2.out _)))
                clear hw1 hw2
                go_wp2_with fail
                refine (spec_l1Column _ k c j F _ (hxF.below (below_drewN hbel nq) (Nat.le_refl _)) hjl h6 HB.out).mono ?_
                rintro e w3 ⟨rfl, m3, rfl⟩
                rw [HC1'.out]
                go_wp2_with fail
                refine (spec_l1Column _ k c2 j Y _ (hown.rd.drewN _) hjl h6 HYB.out).mono ?_
                rintro e w4 ⟨rfl, m4, rfl⟩
                rw [HC2'.out]
                rw [HNV.out] at HN
                by_cases hle : M - R1 - R2 ≤ M - C1 - C2
                · have hmin := Int.min_eq_left hle
                  rw [hmin] at HN
                  clear hmin HNV
                  go_wp2
                  go_roundg (k - (j + 1))
                  case rel => exact ⟨j + 1, by omega, rfl, by go_num, by rw [HN.out]; exact OwnT.drewNSet _ (HP.out _), (below_drewN hbel _).setCell (by simpa using q6) _⟩
                  case measure => omega
                · have hmin := Int.min_eq_right (show M - C1 - C2 ≤ M - R1 - R2 by omega)
                  rw [hmin] at HN
                  clear hmin HNV
                  have hlez : decide (M - R1 - R2 ≤ M - C1 - C2) = false := by simp; omega
                  go_wp2
                  go_roundg (k - (j + 1))
                  case rel => exact ⟨j + 1, by omega, rfl, by go_num, by rw [HN.out]; exact OwnT.drewNSet _ (HP.out _), (below_drewN hbel _).setCell (by simpa using q6) _⟩
                  case measure => omega
              · go_wp2
                go_roundg (k - (a + 1))
                case rel =>
                  obtain rfl : j = k := by omega
                  exact ⟨a + 1, by omega, rfl, by go_num, hown, hbel⟩
                case measure => omega
          · go_wp2
            go_ret
            obtain rfl : a = k := by omega
            exact ⟨A2, a, c2, rfl, by have h9 : fillF a F = fillK a F M a := by unfold fillF; rw [HM.out]
                                      rw [h9]; exact hown.tight, hbel⟩
  · have HV : Hid (fillL t = []) := fillL_no hT
    have HLM : Hid (lineL t = -1) := lineL_no hT
    have h0 := bad_pos HL.out hT
    have HT := Lib.hid hT; clear hT
    go_enter Try.func29, Try.ntmps29
    go_wp2_with (go_at_call 52; refine (spec_LineMost A n c t _ (hx.below hb0 (Nat.le_refl _)) HS.out).mono ?_; rintro e w2 ⟨rfl, m2, rfl⟩; rw [HLM.out])
    go_loopg [3, 5] n (fun g s3 i wr => n = g ∧ i = .int .i64 0 ∧ s3 = .slice (some ⟨w.heap.size, 0, none⟩) 0 0 ∧ wr = (w.alloc (.cells #[] 30)).drewN m2)
    case atStart => exact ⟨rfl, rfl, rfl, rfl⟩
    case round =>
      obtain ⟨rfl, rfl, rfl, rfl⟩ := hrel
      go_wp2
      go_loopg [6] n (fun g i wr => n = g ∧ i = .int .i64 0 ∧ wr = (w.alloc (.cells #[] 30)).drewN m2)
      case atStart => exact ⟨rfl, rfl, rfl⟩
      case round =>
        obtain ⟨rfl, rfl, rfl⟩ := hrel
        go_wp2
        go_ret
        exact ⟨_, 0, 0, rfl, by rw [HV.out]; exact hT0.tight.drewN m2, below_drewN hb0 _⟩
end Go.Proofs.Ythfjlellaojdmaa
