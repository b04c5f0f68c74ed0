/- FrameBest of the program. Condition: tables of at most 1048576 numbers. -/
import Derived.Test.Ythfjlellaojdmaa5v
namespace Go.Proofs.Ythfjlellaojdmaa
open Go.RowKit
set_option linter.unusedSimpArgs false
set_option linter.unusedVariables false
theorem best_bd {n : Nat} {f : Nat → Nat → Int} {s : Nat} (h : BInv n f s) (hM : mostF n f ≤ 36) : Bd n (bSt n f s).1 0 36 ∧ Bd n (bSt n f s).2 0 36 ∧ Bd n (bBoth n f s) 0 36 := by
  have key : ∀ i j, i < n → j < n → (bSt n f s).1 i j + (bSt n f s).2 i j ≤ 36 := fun i j hi hj => by
    have hb : ∀ b, b < n → 0 ≤ bBoth n f s i b := fun b hb => by unfold bBoth; have := h.l0 i b hi hb; have := h.x0 i b hi hb; omega
    have h1 : bBoth n f s i j ≤ rowS n (bBoth n f s) i := sumN_ge hb hj
    have h2 := h.row i hi
    unfold bBoth at h1 h2
    omega
  refine ⟨fun i j hi hj => ?_, fun i j hi hj => ?_, fun i j hi hj => ?_⟩
  · have := key i j hi hj; have := h.l0 i j hi hj; have := h.x0 i j hi hj; omega
  · have := key i j hi hj; have := h.l0 i j hi hj; have := h.x0 i j hi hj; omega
  · have := key i j hi hj; have := h.l0 i j hi hj; have := h.x0 i j hi hj; unfold bBoth; omega
theorem best_sm {t : List (List Int)} (h : SmT t) : SmT (bestL t) := by
  by_cases hT : TrafOk t
  · have h1 := most_bd (n := t.length) hT.six (fun i j hi hj => hT.f i j hi hj)
    rw [bestL_yes hT]
    refine rows_sm (n := t.length) (m := 36) (by rw [bFr_len]; omega) (by omega) (fun r hr => ?_) hT.six
    unfold bFr at hr
    obtain ⟨s, _, rfl⟩ := List.mem_map.1 hr
    exact bSlot_len _ _ _
  · rw [bestL_no hT]; exact SmT.nil
theorem mix_at {r p0 : List Int} {n k : Nat} {x : Int} (hr : r.length = n) (hk : k < n) (hx : p0[k]? = some x) : (r.take k ++ p0.drop k)[k]? = some x := by
  rw [List.getElem?_append_right (by rw [List.length_take]; omega), List.length_take, Nat.min_eq_left (by omega), Nat.sub_self, List.getElem?_drop]
  simpa using hx
theorem mix_set {r p0 : List Int} {n k : Nat} {x y : Int} (hr : r.length = n) (hk : k < n) (hx : p0[k]? = some x) (hy : r[k]? = some y) : (r.take k ++ p0.drop k).set k y = r.take (k + 1) ++ p0.drop (k + 1) := by
  rw [take_snoc hy, List.set_append_right _ _ (by rw [List.length_take]; omega), List.length_take, Nat.min_eq_left (by omega), Nat.sub_self]
  have hl : k < p0.length := (List.getElem?_eq_some_iff.1 hx).1
  rw [List.drop_eq_getElem_cons hl, List.set_cons_zero, List.append_assoc]; rfl
theorem mix_same {r p0 : List Int} {n k : Nat} {x : Int} (hr : r.length = n) (hk : k < n) (hx : p0[k]? = some x) (hy : r[k]? = some x) : r.take k ++ p0.drop k = r.take (k + 1) ++ p0.drop (k + 1) := by
  rw [take_snoc hy]
  have hl : k < p0.length := (List.getElem?_eq_some_iff.1 hx).1
  have e : p0[k] = x := by rw [List.getElem?_eq_getElem hl] at hx; injection hx
  rw [List.drop_eq_getElem_cons hl, List.append_assoc, e]; rfl
set_option maxRecDepth 100000 in
set_option maxHeartbeats 4000000 in
theorem impl_FrameBest (A : Option Addr) (n c : Nat) (t : List (List Int)) (w : World) (hx : RdT w A n t) (hc : n ≤ c) (hs : SmT t) :
    Calls Try.prog 20 #[.slice A n c] w (RetT (bestL t) w) := by
  have HL := hx.len
  have HS := Lib.hid hs; clear hs
  by_cases hT : TrafOk t
  · have HV : Hid (bestL t = bFr n (fOf t) (mostF n (fOf t)).toNat) := by show _ = _; rw [bestL_yes hT, HL.out]
    have h6 : n ≤ 6 := by rw [← HL.out]; exact hT.six
    have HB0 : Hid (∀ i j, 0 ≤ fOf t i j ∧ fOf t i j ≤ 6) := fun i j => hT.bd i j
    have HF : Hid (t = tabF n (fOf t)) := by have := hT.tab; rwa [HL.out] at this
    have HFU : Hid (fillL t = tabF n (fillF n (fOf t))) := by show _ = _; rw [fillL_yes hT, HL.out]
    have HLM : Hid (lineL t = mostF n (fOf t)) := by show _ = _; rw [lineL_yes hT, HL.out]
    have HT := Lib.hid hT; clear hT
    obtain ⟨F, hF⟩ : ∃ F, fOf t = F := ⟨_, rfl⟩
    rw [hF] at HB0 HV HF HFU HLM
    clear hF
    rw [HV.out]
    have HMB : Hid (0 ≤ mostF n F ∧ mostF n F ≤ 36) := most_bd h6 fun i j _ _ => HB0.out i j
    obtain ⟨S, hS⟩ : ∃ S : Nat, mostF n F = S := ⟨(mostF n F).toNat, by have := HMB.out.1; omega⟩
    have hS36 : S ≤ 36 := by have := HMB.out.2; omega
    have HI : Hid (∀ s : Nat, s ≤ S → BInv n F s) := fun s hs => bInv_all (fun i j _ _ => (HB0.out i j).1) s (by omega)
    rw [hS] at HLM
    have HSM := Lib.hid hS
    clear HMB
    rw [HSM.out, Int.toNat_natCast]
    clear hS
    go_enter Try.func20, Try.ntmps20
    go_wp2_with (go_at_call 40; refine (retB_is (b := true) ⟨fun _ => HT.out, fun _ => rfl⟩ (impl_TrafficValid A n c t _ hx HS.out)).mono ?_; rintro e w1 ⟨rfl, m1, rfl⟩)
    refine (impl_copyTable A n c t _ (hx.drewN _) HS.out).mono ?_
    rintro e w2 ⟨A2, c2, rfl, h2, b2⟩
    have b2' : Below w.heap.size w w2 := bstep (below_drewN (Below.refl _ _) m1) b2
    have h2' : OwnT w2 w.heap.size w2.heap.size A2 n c2 t := h2
    clear b2 h2
    go_wp2_with fail
    refine (impl_FillUp A n c t _ (hx.below b2' (Nat.le_refl _)) hc HS.out).mono ?_
    rintro e w3 ⟨A3, n3, c3, rfl, h3, b3⟩
    rw [HFU.out] at h3
    obtain rfl : n = n3 := by have := h3.len.out; rw [tabF_len] at this; omega
    have h23 := h2'.below b3 (Nat.le_refl _)
    have b3' := bstep b2' b3
    rw [HF.out] at h23
    obtain ⟨Z1, hZ1⟩ : ∃ Z, w2.heap.size = Z := ⟨_, rfl⟩
    obtain ⟨Z2, hZ2⟩ : ∃ Z, w3.heap.size = Z := ⟨_, rfl⟩
    have hZa : w.heap.size ≤ Z1 := by rw [← hZ1]; exact b2'.size
    have hZb : Z1 ≤ Z2 := by rw [← hZ1, ← hZ2]; exact b3.size
    rw [hZ1] at h23 h3
    rw [hZ2] at h3
    obtain ⟨hs0, hT0⟩ := (OwnT.nil : OwnT w3 Z2 w3.heap.size none 0 0 [])
    clear h2' b2' b3 hZ1
    go_wp2_with fail
    refine (impl_LineMost A n c t _ (hx.below b3' (Nat.le_refl _)) HS.out).mono ?_
    rintro e w4 ⟨rfl, m4, rfl⟩
    rw [HLM.out]
    go_wp2
    go_loopg [5, 19] S (fun g s5 s19 wr => ∃ (s : Nat) (A5 : Option Addr) (c5 : Nat) (hs : List Hd), s ≤ S ∧ g = S - s ∧ s19 = .int .i64 s ∧ s5 = .slice A5 s c5 ∧ TabH wr Z2 wr.heap.size A5 s c5 (bFr n F s) hs ∧ OwnT wr w.heap.size Z1 A2 n c2 (tabF n (bSt n F s).1) ∧ OwnT wr Z1 Z2 A3 n c3 (tabF n (bSt n F s).2) ∧ Z2 ≤ wr.heap.size ∧ Below w.heap.size w wr)
    case atStart => exact ⟨0, none, 0, hs0, Nat.zero_le _, rfl, rfl, rfl, hT0.drewN _, h23.drewN _, h3.drewN _, by simp; omega, below_drewN b3' _⟩
    case round =>
      clear hT0 h23 h3 b3' hZ2
      obtain ⟨s, A5, c5, hs, hsS, rfl, rfl, rfl, hT5, hLt, hXt, hZr, hbel⟩ := hrel
      by_cases hlt : s < S
      · have HIs : Hid (BInv n F s) := HI.out s hsS
        have HBD := Lib.hid (best_bd HIs.out (by rw [HSM.out]; omega))
        have HGP : Hid (GreedyP n (posP (bBoth n F s)) (bPm n F s)) := bInv_best HIs.out (by rw [HSM.out]; omega)
        obtain ⟨p0, hp0⟩ : ∃ p, bPm n F s = p := ⟨_, rfl⟩
        obtain ⟨r, hr⟩ : ∃ r, bSl n F s = r := ⟨_, rfl⟩
        have HNF : Hid (bFr n F (s + 1) = bFr n F s ++ [r]) := by show _ = _; rw [bFr_succ, hr]
        have HNL : Hid (∀ i j, (bSt n F (s + 1)).1 i j = (bSt n F s).1 i j - hit i j r) := fun i j => by rw [bL_succ, hr]
        have HNX : Hid (∀ i j, (bSt n F (s + 1)).2 i j = (bSt n F s).2 i j - (hit i j p0 - hit i j r)) := fun i j => by rw [bX_succ, hr, hp0]
        have HRS : Hid (r = bSlot n (bSt n F s).1 p0) := by show _ = _; rw [← hr, ← hp0]; rfl
        have HBO : Hid (bBoth n F s = fun i j => (bSt n F s).1 i j + (bSt n F s).2 i j) := rfl
        rw [hp0] at HGP
        obtain ⟨L, hL⟩ : ∃ L, (bSt n F s).1 = L := ⟨_, rfl⟩
        obtain ⟨X, hX⟩ : ∃ L, (bSt n F s).2 = L := ⟨_, rfl⟩
        rw [hL, hX] at HBO
        rw [HBO.out, hL, hX] at HBD
        rw [HBO.out] at HGP
        rw [hL] at HNL HRS hLt
        rw [hX] at HNX hXt
        clear hp0 hr hL hX HBO HIs
        have HRL : Hid (r.length = n) := by show _ = _; rw [HRS.out, bSlot_len]
        go_wp2_with fail
        refine (impl_addTables A2 n c2 L A3 c3 X _ hLt.rd hXt.rd h6 (HBD.out.1.k (by omega) (by omega)) (HBD.out.2.1.k (by omega) (by omega))).mono ?_
        rintro e w6 ⟨A6, c6, rfl, h6b, b6⟩
        have z6 := b6.size
        have hT6 := hT5.keep (w' := w6) (fun g h1 h2 => b6.block g h2)
        have hL6 := hLt.below b6 (Nat.le_refl _)
        have hX6 := hXt.below b6 (Nat.le_refl _)
        have hb6 := bstep hbel b6
        clear hT5 hLt hXt hbel
        go_wp2_with fail
        refine (impl_leastMatch A6 n c6 (fun i j => L i j + X i j) wr.heap.size w6.heap.size p0 w6 h6 (fun i j hi hj => by have := HBD.out.2.2 i j hi hj; omega) h6b (Nat.le_refl _) HGP.out).mono ?_
        rintro e w7 ⟨A7, c7, rfl, h7, b7⟩
        have z7 := b7.size
        have hT7 := hT6.keep (w' := w7) (fun g h1 h2 => b7.block g (by omega))
        have hL7 := hL6.below b7 (Nat.le_refl _)
        have hX7 := hX6.below b7 (Nat.le_refl _)
        have hb7 := bstep hb6 b7
        obtain ⟨U, hU⟩ : ∃ U, wr.heap.size = U := ⟨_, rfl⟩
        rw [hU] at hT7 hZr z6
        have h7' : OwnL iv w7 U 3 A7 n c7 p0 := h7.mono z6
        have hUs : U ≤ w7.heap.size := by omega
        clear hT6 hL6 hX6 hb6 b7 b6 h6b h7 hU z6 z7
        go_wp2
        go_loopg [32] n (fun g s32 wr => ∃ k : Nat, k ≤ n ∧ g = n - k ∧ s32 = .int .i64 k ∧ OwnL iv wr U 3 A7 n c7 (r.take k ++ p0.drop k) ∧ TabH wr Z2 U A5 s c5 (bFr n F s) hs ∧ OwnT wr w.heap.size Z1 A2 n c2 (tabF n (partL L r k)) ∧ OwnT wr Z1 Z2 A3 n c3 (tabF n (partX X p0 r k)) ∧ U ≤ wr.heap.size ∧ Below w.heap.size w wr)
        case atStart => exact ⟨0, Nat.zero_le _, rfl, rfl, h7', hT7, hL7.cong (fun i j _ _ => by unfold partL; rw [hitTo_zero]; omega), hX7.cong (fun i j _ _ => by unfold partX; rw [hitTo_zero, hitTo_zero]; omega), hUs, hb7⟩
        case round =>
          clear h7' hT7 hL7 hX7 hb7 hUs
          obtain ⟨k, hk, rfl, rfl, hP, hTT, hLL, hXX, hUr, hb⟩ := hrel
          by_cases hkn : k < n
          · obtain ⟨v, hvn, hv0⟩ := pm_nat HGP.out.1 hkn
            have HVV := Lib.hid hv0; clear hv0
            obtain ⟨gp, x, hA, p1, p2, HX, p3, p4⟩ := hP.at hkn
            have hxv : x = (v : Int) := by
              have h1 := mix_at (r := r) HRL.out hkn HVV.out
              rw [HX.out] at h1; injection h1
            subst hxv hA
            obtain ⟨g, gk, ck, y, hA, q1, q2, q3, q4, q5, q6, q7, q8, q9, HY, q10, q11, HPL⟩ := hLL.atF hkn hvn
            subst hA
            have HYL : Hid (L k v = y) := by have := HY.out; rwa [part_here] at this
            have hyb : 0 ≤ y ∧ y ≤ 36 := by rw [← HYL.out]; exact HBD.out.1 k v hkn hvn
            obtain ⟨hy0, hy1⟩ := hyb
            by_cases hy : 0 < y
            · have HRv : Hid (r[k]? = some (v : Int)) := by show _ = _; rw [HRS.out]; exact bSlot_yes hkn HVV.out (by rw [HYL.out]; exact hy)
              have hP2 := hP.far ⟨gk, v, none⟩ (.int .i64 (y - 1)) (fun e => by rw [blk_some] at e; injection e with e; simp at e; omega)
              rw [mix_same HRL.out hkn HVV.out HRv.out] at hP2
              have hL2 := HPL.out (y - 1)
              have hX2 := hXX.far ⟨gk, v, none⟩ (.int .i64 (y - 1)) (.inl q8)
              have hT2 := hTT.keep (w' := wr.setCell ⟨gk, v, none⟩ (.int .i64 (y - 1))) (fun g h1 h2 => Below.heap_setCell wr _ _ g (by show g ≠ gk; omega))
              have hb2 := hb.setCell (p := ⟨gk, v, none⟩) q6 (.int .i64 (y - 1))
              go_wp2
              go_roundg (n - (k + 1))
              case rel => exact ⟨k + 1, by omega, rfl, by go_num, hP2, hT2, by rw [partL_sent HRv.out, HYL.out]; exact hL2, by rw [partX_same HVV.out HRv.out]; exact hX2, by simpa [World.setCell] using hUr, hb2⟩
              case measure => omega
            · have hyz : decide (0 < y) = false := by simpa using hy
              have HRv : Hid (r[k]? = some (-1)) := by show _ = _; rw [HRS.out]; exact bSlot_no hkn HVV.out (by rw [HYL.out]; exact hy)
              obtain ⟨g3, gk3, ck3, y3, hA, s1, s2, s3, s4, s5, s6, s7, s8, s9, HY3, s10, s11, HPX⟩ := hXX.atF hkn hvn
              subst hA
              have HYX : Hid (X k v = y3) := by have := HY3.out; rwa [partX_here] at this
              have hyb3 : 0 ≤ y3 ∧ y3 ≤ 36 := by rw [← HYX.out]; exact HBD.out.2.1 k v hkn hvn
              obtain ⟨hy30, hy31⟩ := hyb3
              have e1 : (wr.setCell ⟨gk3, v, none⟩ (.int .i64 (y3 - 1))).cell? ⟨gp, k, none⟩ = some (iv (v : Int)) := by rw [World.cell?_setCell_other _ _ _ _ (fun e => by injection e with e; omega)]; exact p3
              have hP2 := ((hP.far ⟨gk3, v, none⟩ (.int .i64 (y3 - 1)) (fun e => by rw [blk_some] at e; injection e with e; simp at e; omega)).set k (-1))
              rw [mix_set HRL.out hkn HVV.out HRv.out] at hP2
              have hX2 := (HPX.out (y3 - 1)).far ⟨gp, k, none⟩ (.int .i64 (-1)) (.inr (by show Z2 ≤ gp; omega))
              have hL2 := (hLL.far ⟨gk3, v, none⟩ (.int .i64 (y3 - 1)) (.inr s6)).far ⟨gp, k, none⟩ (.int .i64 (-1)) (.inr (by show Z1 ≤ gp; omega))
              have hT2 := (hTT.keep (w' := wr.setCell ⟨gk3, v, none⟩ (.int .i64 (y3 - 1))) (fun g h1 h2 => Below.heap_setCell wr _ _ g (by show g ≠ gk3; omega))).keep (w' := (wr.setCell ⟨gk3, v, none⟩ (.int .i64 (y3 - 1))).setCell ⟨gp, k, none⟩ (.int .i64 (-1))) (fun g h1 h2 => Below.heap_setCell _ _ _ g (by show g ≠ gp; omega))
              have hb2 := (hb.setCell (p := ⟨gk3, v, none⟩) (by show w.heap.size ≤ gk3; omega) (.int .i64 (y3 - 1))).setCell (p := ⟨gp, k, none⟩) (by show w.heap.size ≤ gp; omega) (.int .i64 (-1))
              go_wp2
              go_roundg (n - (k + 1))
              case rel => exact ⟨k + 1, by omega, rfl, by go_num, hP2, hT2, by rw [partL_not HRv.out]; exact hL2, by rw [partX_used HVV.out HRv.out, HYX.out]; exact hX2, by simpa [World.setCell] using hUr, hb2⟩
              case measure => omega
          · obtain rfl : n = k := by omega
            have hP0 : OwnL iv wr U 3 A7 n c7 r := by
              rw [List.take_of_length_le (by rw [HRL.out]; exact Nat.le_refl _), List.drop_eq_nil_of_le (by rw [HGP.out.1.1]; exact Nat.le_refl _), List.append_nil] at hP
              exact hP
            have hPn : ∀ b, blk A7 = some b → U ≤ b := fun b hb => (hP0.lt hb).1
            have hP1 : OwnL iv wr Z2 3 A7 n c7 r := hP0.mono hZr
            have OH := hTT.own.alloc (.cells #[hdv ⟨A7, n, c7⟩] 30)
            clear hP
            go_wp2_with (first
              | (at_builtin; refine wpList_appLN (emb := hdv) _ rfl (.tmp 67) (.tmp 69) _ rfl Z2 30 (.slice none 0 0) 24 Try.underlying23 info_row rfl A5 s c5 hs rfl OH _ 1 1 [⟨A7, n, c7⟩] rfl (rd_hd wr A7 n c7) hdv_one (s + 1) rfl _ rfl (by unfold maxLen; omega) (by omega) (by simp; omega) ?_; intro A8 c8 w8 O8 G8 L8)
              | fail)
            have z8 := G8.size
            simp at z8
            have hT8 := tab_push2 hTT hP1 hPn hUr O8 G8 L8
            rw [← HNF.out] at hT8
            have eL : ∀ i j, i < n → j < n → partL L r n i j = (bSt n F (s + 1)).1 i j := fun i j hi _ => by rw [HNL.out]; unfold partL; rw [hitTo_all _ hi]
            have eX : ∀ i j, i < n → j < n → partX X p0 r n i j = (bSt n F (s + 1)).2 i j := fun i j hi _ => by rw [HNX.out]; unfold partX; rw [hitTo_all _ hi, hitTo_all _ hi]
            have hL8 : OwnT w8 w.heap.size Z1 A2 n c2 (tabF n (bSt n F (s + 1)).1) := ((hLL.cong eL).alloc _).grown G8 (fun g hg => .inr (by have := (hTT.own.lt hg).1; omega))
            have hX8 : OwnT w8 Z1 Z2 A3 n c3 (tabF n (bSt n F (s + 1)).2) := ((hXX.cong eX).alloc _).grown G8 (fun g hg => .inr (hTT.own.lt hg).1)
            have hb8 : Below w.heap.size w w8 := bgrown (bbox hb hb.size _) G8 (by simp; omega) (fun g hg => by have := (hTT.own.lt hg).1; omega)
            go_roundg (S - (s + 1))
            case rel => exact ⟨s + 1, A8, c8, _, by omega, rfl, by go_num, rfl, hT8, hL8, hX8, by omega, hb8⟩
            case measure => omega
      · go_wp2
        go_ret
        obtain rfl : s = S := by omega
        exact ⟨A5, s, c5, rfl, OwnT.mono ⟨hs, hT5⟩ (by omega), hbel⟩
  · have HV : Hid (bestL t = []) := bestL_no hT
    have HT := Lib.hid hT; clear hT
    go_enter Try.func20, Try.ntmps20
    go_wp2_with (go_at_call 40; refine (retB_is (b := false) ⟨fun h => by simp at h, fun h => absurd h HT.out⟩ (impl_TrafficValid A n c t _ hx HS.out)).mono ?_; rintro e w1 ⟨rfl, m1, rfl⟩)
    go_ret
    exact RetT.no HV.out (below_drewN (Below.refl _ _) _) 0
end Go.Proofs.Ythfjlellaojdmaa
