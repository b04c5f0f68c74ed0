/- FrameBest of the reference. Condition: tables of at most 1048576 numbers. -/
import Derived.Test.Ythfjlellaojdmaa5x2
namespace Go.Proofs.Ythfjlellaojdmaa
open Go.RowKit
set_option linter.unusedSimpArgs false
set_option linter.unusedVariables false
theorem rowF_take {n k : Nat} {f : Nat → Int} (hk : k < n) : (rowF n f).take (k + 1) = (rowF n f).take k ++ [f k] := take_snoc (rowF_at hk)
theorem tabF_take {n k : Nat} {f : Nat → Nat → Int} (hk : k < n) : (tabF n f).take (k + 1) = (tabF n f).take k ++ [rowF n (f k)] := take_snoc (tabF_at hk)
set_option maxRecDepth 100000 in
set_option maxHeartbeats 4000000 in
theorem spec_FrameBest (A : Option Addr) (n c : Nat) (t : List (List Int)) (w : World) (hx : RdT w A n t) (hc : n ≤ c) (hs : SmT t) :
    Calls Try.prog 22 #[.slice A n c] w (RetT (bestL t) w) := by
  have HL := hx.len
  have HS := Lib.hid hs; clear hs
  have hT0 := OwnT.lit0 (B := w.heap.size) w (Nat.le_refl _)
  have hb0 := below_box w (.cells #[] 30)
  by_cases hT : TrafOk t
  · have HV : Hid (bestL t = bFr n (fOf t) (mostF n (fOf t)).toNat) := by show _ = _; rw [bestL_yes hT, HL.out]
    have h6 : n ≤ 6 := by rw [← HL.out]; exact hT.six
    have HB0 : Hid (∀ i j, 0 ≤ fOf t i j ∧ fOf t i j ≤ 6) := fun i j => hT.bd i j
    have HFU : Hid (fillL t = tabF n (fillF n (fOf t))) := by show _ = _; rw [fillL_yes hT, HL.out]
    have HFL : Hid (leftL t [] = tabF n (leftF (fOf t) [])) := by show _ = _; rw [leftL_yes hT, HL.out]
    have HLM : Hid (lineL t = mostF n (fOf t)) := by show _ = _; rw [lineL_yes hT, HL.out]
    have HT := Lib.hid hT; clear hT
    obtain ⟨F, hF⟩ : ∃ F, fOf t = F := ⟨_, rfl⟩
    rw [hF] at HB0 HV HFU HFL HLM
    clear hF
    rw [HV.out]
    have HMB : Hid (0 ≤ mostF n F ∧ mostF n F ≤ 36) := most_bd h6 fun i j _ _ => HB0.out i j
    obtain ⟨S, hS⟩ : ∃ S : Nat, mostF n F = S := ⟨(mostF n F).toNat, by have := HMB.out.1; omega⟩
    have hS36 : S ≤ 36 := by have := HMB.out.2; omega
    have HI : Hid (∀ s : Nat, s ≤ S → BInv n F s) := fun s hs => bInv_all (fun i j _ _ => (HB0.out i j).1) s (by omega)
    rw [hS] at HLM
    have HSM := Lib.hid hS
    clear HMB
    rw [HSM.out, Int.toNat_natCast]
    clear hS
    go_enter Try.func22, Try.ntmps22
    go_wp2_with fail
    refine (spec_FillUp A n c t _ (hx.below hb0 (Nat.le_refl _)) hc HS.out).mono ?_
    rintro e w2 ⟨A4, n4, c4, rfl, h2, b2⟩
    rw [HFU.out] at h2
    obtain rfl : n = n4 := by have := h2.len.out; rw [tabF_len] at this; omega
    have b2' := bstep hb0 b2
    go_wp2_with fail
    refine (spec_FrameLeft A n c t none 0 0 [] _ (hx.below b2' (Nat.le_refl _)) RdT.nil hc (Nat.le_refl _) HS.out SmT.nil).mono ?_
    rintro e w3 ⟨A5, n5, c5, rfl, h3, b3⟩
    rw [HFL.out] at h3
    obtain rfl : n = n5 := by have := h3.len.out; rw [tabF_len] at this; omega
    have h3' := h3.cong (G' := F) (fun i j _ _ => by simp [leftF, cnt])
    have h23 := h2.below b3 (Nat.le_refl _)
    have b3' := bstep b2' b3
    have hz2 := b2.size
    have hz3 := b3.size
    obtain ⟨hs0, hT0⟩ := hT0
    obtain ⟨B1, hB1⟩ : ∃ B, w.heap.size + 1 = B := ⟨_, rfl⟩
    have hBs : (w.alloc (.cells #[] 30)).heap.size = B1 := by rw [← hB1]; simp
    rw [hBs] at h23 hz2
    obtain ⟨Z1, hZ1⟩ : ∃ Z, w2.heap.size = Z := ⟨_, rfl⟩
    obtain ⟨Z2, hZ2⟩ : ∃ Z, w3.heap.size = Z := ⟨_, rfl⟩
    have hT3 : TabH w3 w.heap.size w3.heap.size (some ⟨w.heap.size, 0, none⟩) 0 0 [] hs0 := ((hT0.keep (fun g _ h2 => b2.block g (by rw [hBs]; omega))).keep (fun g _ h2 => b3.block g (by omega))).tight
    have hV0 : Av (fun g => B1 ≤ g ∧ g < Z2) (some ⟨w.heap.size, 0, none⟩) hs0 := by
      refine ⟨fun b hb h => by rw [blk_some] at hb; injection hb; omega, fun k y b hy => ?_⟩
      have h1 := hT0.hlen
      have := (List.getElem?_eq_some_iff.1 hy).1
      omega
    rw [hZ1] at h23 h3' hz2 hz3
    rw [hZ2] at h3' hz3
    have hBw : w.heap.size < B1 := by omega
    clear h2 h3 b2 b3 b2' hT0 hb0 hZ1 hBs hB1
    go_wp2_with fail
    refine (spec_LineMost A n c t _ (hx.below b3' (Nat.le_refl _)) HS.out).mono ?_
    rintro e w4 ⟨rfl, m4, rfl⟩
    rw [HLM.out]
    go_wp2
    go_loopg [3, 6] S (fun g s3 s6 wr => ∃ (s d : Nat) (A3 : Option Addr) (c3 : Nat) (hs : List Hd), s + d = S ∧ d = g ∧ s6 = .int .i64 d ∧ s3 = .slice A3 s c3 ∧ TabH wr w.heap.size wr.heap.size A3 s c3 (bFr n F s) hs ∧ Av (fun g => B1 ≤ g ∧ g < Z2) A3 hs ∧ OwnT wr B1 Z1 A4 n c4 (tabF n (bSt n F s).2) ∧ OwnT wr Z1 Z2 A5 n c5 (tabF n (bSt n F s).1) ∧ Z2 ≤ wr.heap.size ∧ Below w.heap.size w wr)
    case atStart => exact ⟨0, S, _, _, hs0, by omega, rfl, rfl, rfl, hT3.drewN _, hV0, h23.drewN _, h3'.drewN _, by simp; omega, below_drewN b3' _⟩
    case round =>
      clear hT3 hV0 h23 h3' b3' hZ2
      obtain ⟨s, d, A3, c3, hs, hsd, rfl, rfl, rfl, hT5, hV5, hXt, hLt, hZr, hbel⟩ := hrel
      rcases Nat.eq_zero_or_pos d with h0 | h0
      · subst h0
        go_wp2
        go_ret
        obtain rfl : s = S := by omega
        exact ⟨A3, s, c3, rfl, ⟨hs, hT5⟩, hbel⟩
      · have HIs : Hid (BInv n F s) := HI.out s (by omega)
        have HBD := Lib.hid (best_bd HIs.out (by rw [HSM.out]; omega))
        have HGP : Hid (GreedyP n (posP (bBoth n F s)) (bPm n F s)) := bInv_best HIs.out (by rw [HSM.out]; omega)
        obtain ⟨p0, hp0⟩ : ∃ p, bPm n F s = p := ⟨_, rfl⟩
        obtain ⟨r, hr⟩ : ∃ r, bSl n F s = r := ⟨_, rfl⟩
        have HNF : Hid (bFr n F (s + 1) = bFr n F s ++ [r]) := by show _ = _; rw [bFr_succ, hr]
        have HNL : Hid (∀ i j, (bSt n F (s + 1)).1 i j = (bSt n F s).1 i j - hit i j r) := fun i j => by rw [bL_succ, hr]
        have HNX : Hid (∀ i j, (bSt n F (s + 1)).2 i j = (bSt n F s).2 i j - (hit i j p0 - hit i j r)) := fun i j => by rw [bX_succ, hr, hp0]
        have HRS : Hid (r = bSlot n (bSt n F s).1 p0) := by show _ = _; rw [← hr, ← hp0]; rfl
        have HBO : Hid (bBoth n F s = fun i j => (bSt n F s).1 i j + (bSt n F s).2 i j) := rfl
        rw [hp0] at HGP
        obtain ⟨L, hL⟩ : ∃ L, (bSt n F s).1 = L := ⟨_, rfl⟩
        obtain ⟨X, hX⟩ : ∃ L, (bSt n F s).2 = L := ⟨_, rfl⟩
        rw [hL, hX] at HBO
        rw [HBO.out, hL, hX] at HBD
        rw [HBO.out] at HGP
        rw [hL] at HNL HRS hLt
        rw [hX] at HNX hXt
        clear hp0 hr hL hX HBO HIs
        have HRL : Hid (r.length = n) := by show _ = _; rw [HRS.out, bSlot_len]
        obtain ⟨hb0, hTb⟩ := (OwnT.lit0 (B := wr.heap.size) wr (Nat.le_refl _)).tight
        have hbb := below_box wr (.cells #[] 30)
        obtain ⟨wo, hwo⟩ : ∃ wo : World, wo = wr := ⟨_, rfl⟩
        subst hwo
        go_wp2
        go_loopg [7, 8] n (fun g s7 s8 wr => ∃ (k : Nat) (Ab : Option Addr) (cb : Nat) (hb : List Hd), k ≤ n ∧ g = n - k ∧ s8 = .int .i64 k ∧ s7 = .slice Ab k cb ∧ TabH wr wo.heap.size wr.heap.size Ab k cb ((tabF n (fun i j => L i j + X i j)).take k) hb ∧ Below wo.heap.size wo wr)
        case atStart => exact ⟨0, _, _, hb0, Nat.zero_le _, rfl, rfl, rfl, hTb, hbb⟩
        case round =>
          clear hTb hbb hb0
          obtain ⟨k, Ab, cb, hb, hk, rfl, rfl, rfl, hTb, hbb⟩ := hrel
          have hzb := hbb.size
          by_cases hlt : k < n
          · obtain ⟨wk, hwk⟩ : ∃ wo : World, wo = wr := ⟨_, rfl⟩
            subst hwk
            have hO0 : OwnL iv (wk.alloc (.cells #[] 3)) wk.heap.size 3 (some ⟨wk.heap.size, 0, none⟩) 0 0 [] := OwnL.lit wk [] (by simp) (Nat.le_refl _)
            have hbk := below_box wk (.cells #[] 3)
            go_wp2
            go_loopg [9, 10] n (fun g s9 s10 wr => ∃ (j : Nat) (Ar : Option Addr) (cr : Nat), j ≤ n ∧ g = n - j ∧ s10 = .int .i64 j ∧ s9 = .slice Ar j cr ∧ OwnL iv wr wk.heap.size 3 Ar j cr ((rowF n (fun j => L k j + X k j)).take j) ∧ Below wk.heap.size wk wr)
            case atStart => exact ⟨0, _, _, Nat.zero_le _, rfl, rfl, rfl, hO0, hbk⟩
            case round =>
              clear hO0 hbk
              obtain ⟨j, Ar, cr, hj, rfl, rfl, rfl, hO, hbk⟩ := hrel
              have hzk := hbk.size
              by_cases hjl : j < n
              · have hbW : Below wo.heap.size wo wr.drew := (bstep hbb hbk).drew
                have hbkW := hbk.drew
                have hOW := hO.drew
                obtain ⟨b, off, b2, off2, ck, x, hA, hc1, hn1, HX1, hc2⟩ := (hLt.rd.below hbW (Nat.le_refl _)).atFF hlt hjl
                subst hA
                obtain ⟨b3, off3, b4, off4, ck4, y, hA, hc3, hn3, HX2, hc4⟩ := (hXt.rd.below hbW (Nat.le_refl _)).atFF hlt hjl
                subst hA
                have hxb : 0 ≤ x ∧ x ≤ 36 := by rw [← HX1.out]; exact HBD.out.1 k j hlt hjl
                have hyb : 0 ≤ y ∧ y ≤ 36 := by rw [← HX2.out]; exact HBD.out.2.1 k j hlt hjl
                obtain ⟨hx1, hx2⟩ := hxb
                obtain ⟨hy1, hy2⟩ := hyb
                have hwxy : IntKind.i64.wrap (x + y) = x + y := IntWalk.i64_in _ (by omega)
                have hj0 : (0 : Int) ≤ (j : Int) := Int.natCast_nonneg _
                have hj1 : (j : Int) < (n : Int) := by omega
                have hk0 : (0 : Int) ≤ (k : Int) := Int.natCast_nonneg _
                have hk1 : (k : Int) < (n : Int) := by omega
                go_wp2_with fail
                go_region_law (refine step_appLN (emb := iv) _ rfl (.tmp 39) (.tmp 55) _ rfl wk.heap.size 3 (.int .i64 0) 8 Try.underlying30 info_int rfl Ar j cr _ rfl (hOW.alloc _) _ 1 1 [x + y] rfl (rd_int _ _) (fun _ => rfl) (j + 1) rfl _ rfl (by unfold maxLen; omega) (by omega) (by simp; omega) ?_; intro A6 c6 w6 O6 G6 L6)
                all_goals
                  have HXY : Hid (L k j + X k j = x + y) := by show _ = _; rw [HX1.out, HX2.out]
                  clear hwxy
                  have z6 := G6.size
                  simp at z6
                  have hb6 : Below wk.heap.size wk w6 := bgrown (bbox hbkW (by simpa using hzk) _) G6 (by simp; omega) (fun g hg => (hO.lt hg).1)
                  rw [← HXY.out, ← rowF_take (f := fun j => L k j + X k j) hjl] at O6
                  go_wp2_with fail
                  go_roundg (n - (j + 1))
                  case rel => exact ⟨j + 1, A6, c6, by omega, rfl, by go_num, rfl, O6, hb6⟩
                  case measure => omega
              · obtain rfl : n = j := by omega
                have hrt : (rowF n (fun j => L k j + X k j)).take n = rowF n (fun j => L k j + X k j) := List.take_of_length_le (by rw [rowF_len]; exact Nat.le_refl _)
                rw [hrt] at hO
                have hTk := hTb.keep (w' := wr) (fun g h1 h2 => hbk.block g h2)
                have hOm : OwnL iv wr wo.heap.size 3 Ar n cr (rowF n (fun j => L k j + X k j)) := hO.mono hzb
                have hOn : ∀ b, blk Ar = some b → wk.heap.size ≤ b := fun b hb => (hO.lt hb).1
                have OH := hTk.own.alloc (.cells #[hdv ⟨Ar, n, cr⟩] 30)
                go_wp2_with (first
                  | (at_builtin; refine wpList_appLN (emb := hdv) _ rfl (.tmp 57) (.tmp 59) _ rfl wo.heap.size 30 (.slice none 0 0) 24 Try.underlying23 info_row rfl Ab k cb hb rfl OH _ 1 1 [⟨Ar, n, cr⟩] rfl (rd_hd wr Ar n cr) hdv_one (k + 1) rfl _ rfl (by unfold maxLen; omega) (by omega) (by simp; omega) ?_; intro A8 c8 w8 O8 G8 L8)
                  | fail)
                have z8 := G8.size
                simp at z8
                have hT8 := tab_push2 hTk hOm hOn hzk O8 G8 L8
                rw [← tabF_take (f := fun i j => L i j + X i j) hlt] at hT8
                have hb8 : Below wo.heap.size wo w8 := bgrown (bbox (bstep hbb hbk) (by omega) _) G8 (by simp; omega) (fun g hg => (hTk.own.lt hg).1)
                go_roundg (n - (k + 1))
                case rel => exact ⟨k + 1, A8, c8, _, by omega, rfl, by go_num, rfl, hT8, hb8⟩
                case measure => omega
          · obtain rfl : n = k := by omega
            have hrt : (tabF n (fun i j => L i j + X i j)).take n = tabF n (fun i j => L i j + X i j) := List.take_of_length_le (by rw [tabF_len]; exact Nat.le_refl _)
            rw [hrt] at hTb
            go_wp2_with fail
            refine (spec_l5Match Ab n cb (fun i j => L i j + X i j) p0 _ hTb.rd h6 (fun i j hi hj => by have := HBD.out.2.2 i j hi hj; omega) HGP.out).mono ?_
            rintro e w5 ⟨A7, c7, rfl, h7, b7⟩
            have bw5 : Below wo.heap.size wo w5 := bstep hbb b7
            have z7 := b7.size
            have hT7 := hT5.keep (w' := w5) (fun g h1 h2 => bw5.block g h2)
            have hL7 := hLt.below bw5 (Nat.le_refl _)
            have hX7 := hXt.below bw5 (Nat.le_refl _)
            have hb7 : Below w.heap.size w w5 := bstep hbel bw5
            have hA7 : ∀ b, blk A7 = some b → wo.heap.size ≤ b ∧ b < w5.heap.size := fun b hb => ⟨by have := (h7.lt hb).1; omega, (h7.lt hb).2⟩
            have h7m : OwnL iv w5 Z2 3 A7 n c7 p0 := h7.mono (by omega)
            have hO0 : OwnL iv (w5.alloc (.cells #[] 3)) w5.heap.size 3 (some ⟨w5.heap.size, 0, none⟩) 0 0 [] := OwnL.lit w5 [] (by simp) (Nat.le_refl _)
            have hz5 : wo.heap.size ≤ w5.heap.size := by omega
            obtain ⟨U0, hU0⟩ : ∃ U, wo.heap.size = U := ⟨_, rfl⟩
            rw [hU0] at hT7 hA7 hz5 hZr
            have hTa := hT7.allocU hz5 (.cells #[] 3)
            have hLa := hL7.alloc (.cells #[] 3)
            have hXa := hX7.alloc (.cells #[] 3)
            have hpa := h7m.alloc (.cells #[] 3)
            have hba := bbox hb7 hb7.size (.cells #[] 3)
            clear hTb hbb hT5 hLt hXt hbel b7 bw5 h7 h7m hT7 hL7 hX7 hb7 z7 hU0
            go_wp2
            go_loopg [12, 13] n (fun g s12 s13 wr => ∃ (k : Nat) (As : Option Addr) (cs : Nat), k ≤ n ∧ g = n - k ∧ s13 = .int .i64 k ∧ s12 = .slice As k cs ∧ OwnL iv wr w5.heap.size 3 As k cs (r.take k) ∧ OwnL iv wr Z2 3 A7 n c7 p0 ∧ TabH wr w.heap.size U0 A3 s c3 (bFr n F s) hs ∧ OwnT wr Z1 Z2 A5 n c5 (tabF n (partL L r k)) ∧ OwnT wr B1 Z1 A4 n c4 (tabF n (partX X p0 r k)) ∧ w5.heap.size < wr.heap.size ∧ Below w.heap.size w wr)
            case atStart => exact ⟨0, _, _, Nat.zero_le _, rfl, rfl, rfl, hO0, hpa, hTa, hLa.cong (fun i j _ _ => by unfold partL; rw [hitTo_zero]; omega), hXa.cong (fun i j _ _ => by unfold partX; rw [hitTo_zero, hitTo_zero]; omega), by simp, hba⟩
            case round =>
              clear hO0 hpa hTa hLa hXa hba
              obtain ⟨k, As, cs, hk, rfl, rfl, rfl, hS, hp, hTT, hLL, hXX, hUr, hb⟩ := hrel
              by_cases hkn : k < n
              · obtain ⟨v, hvn, hv0⟩ := pm_nat HGP.out.1 hkn
                have HVV := Lib.hid hv0; clear hv0
                obtain ⟨gp, x, hA, p1, p2, HXp, p3, p4⟩ := hp.at hkn
                have hxv : x = (v : Int) := by
                  have h1 := HVV.out
                  rw [HXp.out] at h1; injection h1
                subst hxv hA
                have hgp := hA7 gp rfl
                obtain ⟨hgp1, hgp2⟩ := hgp
                obtain ⟨g, gk, ck, y, hA, q1, q2, q3, q4, q5, q6, q7, q8, q9, HY, q10, q11, HPL⟩ := hLL.atF hkn hvn
                subst hA
                have HYL : Hid (L k v = y) := by have := HY.out; rwa [part_here] at this
                have hyb : 0 ≤ y ∧ y ≤ 36 := by rw [← HYL.out]; exact HBD.out.1 k v hkn hvn
                obtain ⟨hy0, hy1⟩ := hyb
                have hv1 : (0 : Int) ≤ (v : Int) := Int.natCast_nonneg _
                have hv2 : (v : Int) < (n : Int) := by omega
                have hk1 : (0 : Int) ≤ (k : Int) := Int.natCast_nonneg _
                have hk2 : (k : Int) < (n : Int) := by omega
                by_cases hy : 0 < y
                · have HRv : Hid (r[k]? = some (v : Int)) := by show _ = _; rw [HRS.out]; exact bSlot_yes hkn HVV.out (by rw [HYL.out]; exact hy)
                  go_wp2_with fail
                  go_quiet (fail)
                  go_wp2_with fail
                  obtain ⟨W, hW⟩ : ∃ W : World, (wr.drewN nq).drew = W := ⟨_, rfl⟩
                  have hS0 := (hS.drewN nq).drew
                  have hp0 := (hp.drewN nq).drew
                  have hT0 := (hTT.drewN nq).drew
                  have hL0 := (hLL.drewN nq).drew
                  have hX0 := (hXX.drewN nq).drew
                  have hb0 := (below_drewN hb nq).drew
                  have p3W : (wr.drewN nq).drew.cell? ⟨gp, k, none⟩ = some (iv (v : Int)) := p3
                  have hUW : w5.heap.size < (wr.drewN nq).drew.heap.size := hUr
                  rw [hW] at hS0 hp0 hT0 hL0 hX0 hb0 p3W hUW
                  clear hS hp hTT hLL hXX hb p3 p4 p1 p2 hUr q4 q10 q11 q2 q7 HPL
                  obtain ⟨g', gk', ck', y', hA, s1, s2, s3, s4, s5, s6, s7, s8, s9, HY', s10, s11, HPW⟩ := hL0.atF hkn hvn
                  injection hA with hA; injection hA with hA; subst hA
                  have hyy : y' = y := by have h1 := HY'.out; rw [part_here, HYL.out] at h1; exact h1.symm
                  subst hyy
                  refine wp_region_still_tail 20 (by kernel_rfl) (by kernel_rfl) ?_
                  simp only [List.take_succ_cons, List.take_zero, List.drop_succ_cons, List.drop_zero]
                  change wpStill _ _ (World.drew (wr.drewN nq)) (fun a' => wpList _ _ _ _ a' (World.drew (wr.drewN nq))) _ _
                  rw [hW]
                  clear hW
                  repeat still_step
                  refine wpStill_nil ?_
                  have hS9 := hS0.far ⟨gk', v, none⟩ (.int .i64 (y' - 1)) (fun e => by have := (hS0.lt e).1; simp at this; omega)
                  have hp9 := hp0.far ⟨gk', v, none⟩ (.int .i64 (y' - 1)) (fun e => by rw [blk_some] at e; injection e with e; simp at e; omega)
                  have hT9 := hT0.keepV (w' := (W.setCell ⟨gk', v, none⟩ (.int .i64 (y' - 1)))) hV5 ((Kb.refl _ W).set (.inl ⟨by show B1 ≤ gk'; omega, by show gk' < Z2; omega⟩) _)
                  have hL9 : OwnT (W.setCell ⟨gk', v, none⟩ (.int .i64 (y' - 1))) Z1 Z2 (some ⟨g, 0, none⟩) n c5 (tabF n (partL L r (k + 1))) := by rw [partL_sent HRv.out, HYL.out]; exact HPW.out (y' - 1)
                  have hX9 : OwnT (W.setCell ⟨gk', v, none⟩ (.int .i64 (y' - 1))) B1 Z1 A4 n c4 (tabF n (partX X p0 r (k + 1))) := by rw [partX_same HVV.out HRv.out]; exact hX0.far _ _ (.inr s6)
                  have hb9 : Below w.heap.size w (W.setCell ⟨gk', v, none⟩ (.int .i64 (y' - 1))) := hb0.setCell (by show w.heap.size ≤ gk'; omega) _
                  have p39 : (W.setCell ⟨gk', v, none⟩ (.int .i64 (y' - 1))).cell? ⟨gp, k, none⟩ = some (iv (v : Int)) := by rw [World.cell?_setCell_other _ _ _ _ (fun e => by injection e with e; omega)]; exact p3W
                  have hRD := rd_int (W.setCell ⟨gk', v, none⟩ (.int .i64 (y' - 1))) (v : Int)
                  have hRDe : (W.setCell ⟨gk', v, none⟩ (.int .i64 (y' - 1))).heap.size = W.heap.size := by simp [World.setCell]
                  rw [hRDe] at hRD
                  clear hS0 hp0 hT0 hL0 hX0 hb0 p3W
                  go_wp2_with (first
                    | (at_builtin; refine wpList_appLN (emb := iv) _ rfl (.tmp 101) (.tmp 106) _ rfl w5.heap.size 3 (.int .i64 0) 8 Try.underlying30 info_int rfl As k cs (r.take k) rfl (hS9.alloc _) _ 1 1 [(v : Int)] rfl hRD (fun _ => rfl) (k + 1) rfl _ rfl (by unfold maxLen; omega) (by omega) (by simp; omega) ?_; intro A6 c6 w6 O6 G6 L6)
                    | fail)
                  rw [← take_snoc HRv.out] at O6
                  have z6 := G6.size
                  simp at z6
                  have hgr : ∀ g, blk As = some g → w5.heap.size ≤ g := fun g hg => (hS9.lt hg).1
                  have hp6 := (hp9.alloc (.cells #[.int .i64 (v : Int)] 3)).grown G6 (fun g hg hb => by rw [blk_some] at hb; injection hb with hb; have := hgr g hg; omega)
                  have hT6 : TabH w6 w.heap.size U0 A3 s c3 (bFr n F s) hs := hT9.keep (w' := w6) (fun g h1 h2 => (G6.block g (by simp; omega) (fun e => by have := hgr g e.symm; omega)).trans (Below.heap_alloc _ _ g (by rw [hRDe]; omega)))
                  have hL6 := (hL9.alloc (.cells #[.int .i64 (v : Int)] 3)).grown G6 (fun g hg => .inr (by have := hgr g hg; omega))
                  have hX6 := (hX9.alloc (.cells #[.int .i64 (v : Int)] 3)).grown G6 (fun g hg => .inr (by have := hgr g hg; omega))
                  have hb6 : Below w.heap.size w w6 := bgrown (bbox hb9 hb9.size _) G6 (by simp; omega) (fun g hg => by have := hgr g hg; omega)
                  go_roundg (n - (k + 1))
                  case rel => exact ⟨k + 1, A6, c6, by omega, rfl, by go_num, rfl, O6, hp6, hT6, hL6, hX6, by omega, hb6⟩
                  case measure => omega
                · have hyz : decide (0 < y) = false := by simpa using hy
                  have HRv : Hid (r[k]? = some (-1)) := by show _ = _; rw [HRS.out]; exact bSlot_no hkn HVV.out (by rw [HYL.out]; exact hy)
                  go_wp2_with fail
                  go_quiet (fail)
                  go_wp2_with fail
                  obtain ⟨W, hW⟩ : ∃ W : World, (wr.drewN nq).drew = W := ⟨_, rfl⟩
                  have hS0 := (hS.drewN nq).drew
                  have hp0 := (hp.drewN nq).drew
                  have hT0 := (hTT.drewN nq).drew
                  have hL0 := (hLL.drewN nq).drew
                  have hX0 := (hXX.drewN nq).drew
                  have hb0 := (below_drewN hb nq).drew
                  have p3W : (wr.drewN nq).drew.cell? ⟨gp, k, none⟩ = some (iv (v : Int)) := p3
                  have hUW : w5.heap.size < (wr.drewN nq).drew.heap.size := hUr
                  rw [hW] at hS0 hp0 hT0 hL0 hX0 hb0 p3W hUW
                  clear hS hp hTT hLL hXX hb p3 p4 p1 p2 hUr q4 q10 q11 q2 q7 HPL
                  obtain ⟨g', gk', ck', y', hA, s1, s2, s3, s4, s5, s6, s7, s8, s9, HY', s10, s11, HPW⟩ := hX0.atF hkn hvn
                  subst hA
                  have HYX : Hid (X k v = y') := by have := HY'.out; rwa [partX_here] at this
                  have hyb' : 0 ≤ y' ∧ y' ≤ 36 := by rw [← HYX.out]; exact HBD.out.2.1 k v hkn hvn
                  obtain ⟨hy0', hy1'⟩ := hyb'
                  refine wp_region_still_tail 20 (by kernel_rfl) (by kernel_rfl) ?_
                  simp only [List.take_succ_cons, List.take_zero, List.drop_succ_cons, List.drop_zero]
                  change wpStill _ _ (World.drew (wr.drewN nq)) (fun a' => wpList _ _ _ _ a' (World.drew (wr.drewN nq))) _ _
                  rw [hW]
                  clear hW
                  repeat still_step
                  refine wpStill_nil ?_
                  have hS9 := hS0.far ⟨gk', v, none⟩ (.int .i64 (y' - 1)) (fun e => by have := (hS0.lt e).1; simp at this; omega)
                  have hp9 := hp0.far ⟨gk', v, none⟩ (.int .i64 (y' - 1)) (fun e => by rw [blk_some] at e; injection e with e; simp at e; omega)
                  have hT9 := hT0.keepV (w' := (W.setCell ⟨gk', v, none⟩ (.int .i64 (y' - 1)))) hV5 ((Kb.refl _ W).set (.inl ⟨by show B1 ≤ gk'; omega, by show gk' < Z2; omega⟩) _)
                  have hL9 : OwnT (W.setCell ⟨gk', v, none⟩ (.int .i64 (y' - 1))) Z1 Z2 (some ⟨g, 0, none⟩) n c5 (tabF n (partL L r (k + 1))) := by rw [partL_not HRv.out]; exact hL0.far _ _ (.inl s8)
                  have hX9 : OwnT (W.setCell ⟨gk', v, none⟩ (.int .i64 (y' - 1))) B1 Z1 (some ⟨g', 0, none⟩) n c4 (tabF n (partX X p0 r (k + 1))) := by rw [partX_used HVV.out HRv.out, HYX.out]; exact HPW.out (y' - 1)
                  have hb9 : Below w.heap.size w (W.setCell ⟨gk', v, none⟩ (.int .i64 (y' - 1))) := hb0.setCell (by show w.heap.size ≤ gk'; omega) _
                  have p39 : (W.setCell ⟨gk', v, none⟩ (.int .i64 (y' - 1))).cell? ⟨gp, k, none⟩ = some (iv (v : Int)) := by rw [World.cell?_setCell_other _ _ _ _ (fun e => by injection e with e; omega)]; exact p3W
                  have hRD := rd_int (W.setCell ⟨gk', v, none⟩ (.int .i64 (y' - 1))) (-1 : Int)
                  have hRDe : (W.setCell ⟨gk', v, none⟩ (.int .i64 (y' - 1))).heap.size = W.heap.size := by simp [World.setCell]
                  rw [hRDe] at hRD
                  clear hS0 hp0 hT0 hL0 hX0 hb0 p3W
                  go_wp2_with (first
                    | (at_builtin; refine wpList_appLN (emb := iv) _ rfl (.tmp 128) (.tmp 129) _ rfl w5.heap.size 3 (.int .i64 0) 8 Try.underlying30 info_int rfl As k cs (r.take k) rfl (hS9.alloc _) _ 1 1 [(-1 : Int)] rfl hRD (fun _ => rfl) (k + 1) rfl _ rfl (by unfold maxLen; omega) (by omega) (by simp; omega) ?_; intro A6 c6 w6 O6 G6 L6)
                    | fail)
                  rw [← take_snoc HRv.out] at O6
                  have z6 := G6.size
                  simp at z6
                  have hgr : ∀ g, blk As = some g → w5.heap.size ≤ g := fun g hg => (hS9.lt hg).1
                  have hp6 := (hp9.alloc (.cells #[.int .i64 (-1 : Int)] 3)).grown G6 (fun g hg hb => by rw [blk_some] at hb; injection hb with hb; have := hgr g hg; omega)
                  have hT6 : TabH w6 w.heap.size U0 A3 s c3 (bFr n F s) hs := hT9.keep (w' := w6) (fun g h1 h2 => (G6.block g (by simp; omega) (fun e => by have := hgr g e.symm; omega)).trans (Below.heap_alloc _ _ g (by rw [hRDe]; omega)))
                  have hL6 := (hL9.alloc (.cells #[.int .i64 (-1 : Int)] 3)).grown G6 (fun g hg => .inr (by have := hgr g hg; omega))
                  have hX6 := (hX9.alloc (.cells #[.int .i64 (-1 : Int)] 3)).grown G6 (fun g hg => .inr (by have := hgr g hg; omega))
                  have hb6 : Below w.heap.size w w6 := bgrown (bbox hb9 hb9.size _) G6 (by simp; omega) (fun g hg => by have := hgr g hg; omega)
                  go_roundg (n - (k + 1))
                  case rel => exact ⟨k + 1, A6, c6, by omega, rfl, by go_num, rfl, O6, hp6, hT6, hL6, hX6, by omega, hb6⟩
                  case measure => omega
              · obtain rfl : n = k := by omega
                have hrt : r.take n = r := List.take_of_length_le (by rw [HRL.out]; exact Nat.le_refl _)
                rw [hrt] at hS
                have hSm : OwnL iv wr w.heap.size 3 As n cs r := hS.mono (by omega)
                have hSn : ∀ b, blk As = some b → U0 ≤ b := fun b hb => by have := (hS.lt hb).1; omega
                have OH := hTT.own.alloc (.cells #[hdv ⟨As, n, cs⟩] 30)
                go_wp2_with (first
                  | (at_builtin; refine wpList_appLN (emb := hdv) _ rfl (.tmp 131) (.tmp 133) _ rfl w.heap.size 30 (.slice none 0 0) 24 Try.underlying23 info_row rfl A3 s c3 hs rfl OH _ 1 1 [⟨As, n, cs⟩] rfl (rd_hd wr As n cs) hdv_one (s + 1) rfl _ rfl (by unfold maxLen; omega) (by omega) (by simp; omega) ?_; intro A8 c8 w8 O8 G8 L8)
                  | fail)
                have z8 := G8.size
                simp at z8
                have hT8 := tab_push2 hTT hSm hSn (by omega) O8 G8 L8
                rw [← HNF.out] at hT8
                have hV8 : Av (fun g => B1 ≤ g ∧ g < Z2) A8 (hs ++ [⟨As, n, cs⟩]) := hV5.push (fun b hb h => by have := hSn b hb; omega) (fun b hb h => by
                  rcases L8 with e | e
                  · rw [e] at hb; exact hV5.1 b hb h
                  · rw [e] at hb; injection hb with hb; simp at hb; omega)
                have hgr : ∀ g, blk A3 = some g → g < B1 ∨ Z2 ≤ g := fun g hg => by
                  have h1 := hV5.1 g hg
                  by_cases h3 : B1 ≤ g
                  · right
                    by_cases h4 : g < Z2
                    · exact absurd ⟨h3, h4⟩ h1
                    · omega
                  · left; omega
                have eL : ∀ i j, i < n → j < n → partL L r n i j = (bSt n F (s + 1)).1 i j := fun i j hi _ => by rw [HNL.out]; unfold partL; rw [hitTo_all _ hi]
                have eX : ∀ i j, i < n → j < n → partX X p0 r n i j = (bSt n F (s + 1)).2 i j := fun i j hi _ => by rw [HNX.out]; unfold partX; rw [hitTo_all _ hi, hitTo_all _ hi]
                have hL8 : OwnT w8 Z1 Z2 A5 n c5 (tabF n (bSt n F (s + 1)).1) := ((hLL.cong eL).alloc _).grown G8 (fun g hg => by have := hgr g hg; omega)
                have hX8 : OwnT w8 B1 Z1 A4 n c4 (tabF n (bSt n F (s + 1)).2) := ((hXX.cong eX).alloc _).grown G8 (fun g hg => by have := hgr g hg; omega)
                have hb8 : Below w.heap.size w w8 := bgrown (bbox hb hb.size _) G8 (by simp; omega) (fun g hg => (hTT.own.lt hg).1)
                go_roundg (d - 1)
                case rel => exact ⟨s + 1, d - 1, A8, c8, _, by omega, rfl, by go_num, rfl, hT8, hV8, hX8, hL8, by omega, hb8⟩
                case measure => omega
  · have HV : Hid (bestL t = []) := bestL_no hT
    have HFU : Hid (fillL t = []) := fillL_no hT
    have HFL : Hid (leftL t [] = []) := leftL_no hT
    have HLM : Hid (lineL t = -1) := lineL_no hT
    have HT := Lib.hid hT; clear hT
    go_enter Try.func22, Try.ntmps22
    go_wp2_with fail
    refine (spec_FillUp A n c t _ (hx.below hb0 (Nat.le_refl _)) hc HS.out).mono ?_
    rintro e w2 ⟨A4, n4, c4, rfl, h2, b2⟩
    have b2' := bstep hb0 b2
    have hT2 := hT0.tight.below b2 (Nat.le_refl _)
    go_wp2_with fail
    refine (spec_FrameLeft A n c t none 0 0 [] _ (hx.below b2' (Nat.le_refl _)) RdT.nil hc (Nat.le_refl _) HS.out SmT.nil).mono ?_
    rintro e w3 ⟨A5, n5, c5, rfl, h3, b3⟩
    have b3' := bstep b2' b3
    have hT3 := hT2.below b3 (Nat.le_refl _)
    have hz2 := b2.size
    have hz3 := b3.size
    clear h2 h3
    go_wp2_with fail
    refine (spec_LineMost A n c t _ (hx.below b3' (Nat.le_refl _)) HS.out).mono ?_
    rintro e w4 ⟨rfl, m4, rfl⟩
    rw [HLM.out]
    go_wp2
    go_loopg [3, 6] 0 (fun g s3 s6 wr => g = 0 ∧ s3 = .slice (some ⟨w.heap.size, 0, none⟩) 0 0 ∧ s6 = .int .i64 (-1) ∧ wr = w3.drewN m4)
    case atStart => exact ⟨rfl, rfl, rfl, rfl⟩
    case round =>
      obtain ⟨rfl, rfl, rfl, rfl⟩ := hrel
      go_wp2
      go_ret
      exact ⟨_, 0, 0, rfl, by rw [HV.out]; show OwnT _ _ w3.heap.size _ _ _ _; exact (hT3.up (by omega)).drewN m4, below_drewN b3' _⟩
end Go.Proofs.Ythfjlellaojdmaa
