/- FrameGreedy of the reference. Condition: tables of at most 1048576 numbers. -/
import Derived.Test.Ythfjlellaojdmaa5g2
import Derived.Test.Ythfjlellaojdmaa5u3
namespace Go.Proofs.Ythfjlellaojdmaa
open Go.RowKit
set_option linter.unusedSimpArgs false
set_option linter.unusedVariables false
theorem rd_int (w : World) (x : Int) : RdL iv (w.alloc (.cells #[.int .i64 x] 3)) (some ⟨w.heap.size, 0, none⟩) 1 [x] := RdL.one (emb := iv) w 3 x
theorem allS_congr {n : Nat} {f g : Nat → Nat → Int} (h : ∀ i j, i < n → j < n → f i j = g i j) : allS n f = allS n g := sumN_congr fun i hi => sumN_congr fun j hj => h i j hi hj
theorem pickN_keep {P : Nat → Bool} {k : Nat} (h : 0 ≤ pickN P k) : pickN P (k + 1) = pickN P k := by
  show (if 0 ≤ pickN P k then pickN P k else _) = _
  rw [if_pos h]
theorem pickN_yes {P : Nat → Bool} {k : Nat} (h : pickN P k < 0) (hp : P k = true) : pickN P (k + 1) = k := by
  show (if 0 ≤ pickN P k then pickN P k else _) = _
  rw [if_neg (by omega), if_pos hp]
theorem pickN_no {P : Nat → Bool} {k : Nat} (h : pickN P k < 0) (hp : P k = false) : pickN P (k + 1) = pickN P k := by
  have h1 := (pickN_bd P k).1
  show (if 0 ≤ pickN P k then pickN P k else _) = _
  rw [if_neg (by omega), hp]
  simp; omega
theorem TabH.drewN {w : World} {B F n c : Nat} {A : Option Addr} {rows : List (List Int)} {hs : List Hd} (h : TabH w B F A n c rows hs) (m : Nat) : TabH (w.drewN m) B F A n c rows hs := h.keep fun _ _ _ => rfl
theorem TabH.drew {w : World} {B F n c : Nat} {A : Option Addr} {rows : List (List Int)} {hs : List Hd} (h : TabH w B F A n c rows hs) : TabH w.drew B F A n c rows hs := h.keep fun _ _ _ => rfl
theorem TabH.allocU {w : World} {B F n c : Nat} {A : Option Addr} {rows : List (List Int)} {hs : List Hd} (h : TabH w B F A n c rows hs) (hF : F ≤ w.heap.size) (o : Obj) : TabH (w.alloc o) B F A n c rows hs := h.keep fun g _ h2 => Below.heap_alloc w o g (by omega)
set_option maxRecDepth 100000 in
set_option maxHeartbeats 2000000 in
theorem spec_FrameGreedy (A : Option Addr) (n c : Nat) (t : List (List Int)) (w : World) (hx : RdT w A n t) (hc : n ≤ c) (hs : SmT t) :
    Calls Try.prog 33 #[.slice A n c] w (RetT (greedyL t) w) := by
  have HL := hx.len
  have HS := Lib.hid hs; clear hs
  have hT0 := OwnT.lit0 (B := w.heap.size) w (Nat.le_refl _)
  have hb0 := below_box w (.cells #[] 30)
  by_cases hT : TrafOk t
  · have HV : Hid (∀ s, GEnd n (fOf t) s → greedyL t = gFr n (fOf t) s) := fun s hs => by rw [greedyL_yes hT (s := s) (by rw [HL.out]; exact hs), HL.out]
    have h6 : n ≤ 6 := by rw [← HL.out]; exact hT.six
    have HB : Hid (Bd n (fOf t) 0 6) := by have := hT.bd6; rwa [HL.out] at this
    have HF : Hid (leftL t [] = tabF n (leftF (fOf t) [])) := by show _ = _; rw [leftL_yes hT, HL.out]
    have HA : Hid (allL t = allS n (fOf t)) := by show _ = _; rw [allL_yes hT, HL.out]
    have HT := Lib.hid hT; clear hT
    obtain ⟨F, hF⟩ : ∃ F, fOf t = F := ⟨_, rfl⟩
    rw [hF] at HB HV HF HA
    clear hF
    obtain ⟨N0, hN0⟩ : ∃ N : Nat, (allS n F).toNat = N := ⟨_, rfl⟩
    have hAll := allS_bd h6 HB.out
    have hN1 : N0 ≤ 216 := by omega
    have HN0 := Lib.hid hN0
    clear hN0 hAll
    go_enter Try.func33, Try.ntmps33
    go_wp2_with fail
    refine (spec_FrameLeft A n c t none 0 0 [] _ (hx.below hb0 (Nat.le_refl _)) RdT.nil hc (Nat.le_refl _) HS.out SmT.nil).mono ?_
    rintro e w3 ⟨A2, n2, c2, rfl, h2, b2⟩
    rw [HF.out] at h2
    obtain rfl : n = n2 := by have := h2.len.out; rw [tabF_len] at this; omega
    have h2' : OwnT w3 (w.heap.size + 1) w3.heap.size A2 n c2 (tabF n F) := by
      have h3 := h2.cong (G' := F) (fun i j _ _ => by simp [leftF, cnt])
      simpa using h3
    have hs3 := b2.size
    simp at hs3
    obtain ⟨hs0, hT0⟩ := hT0
    have b3 : Below w.heap.size w w3 := bstep hb0 b2
    obtain ⟨Z1, hZ1⟩ : ∃ Z, w3.heap.size = Z := ⟨_, rfl⟩
    obtain ⟨B1, hB1⟩ : ∃ B, w.heap.size + 1 = B := ⟨_, rfl⟩
    have hT3 : TabH w3 w.heap.size w3.heap.size (some ⟨w.heap.size, 0, none⟩) 0 0 [] hs0 := (hT0.keep (fun g _ h2 => b2.block g (by simp; omega))).tight
    have hV0 : Av (fun g => B1 ≤ g ∧ g < Z1) (some ⟨w.heap.size, 0, none⟩) hs0 := by
      refine ⟨fun b hb h => by rw [blk_some] at hb; injection hb; omega, fun k y b hy => ?_⟩
      have h1 := hT0.hlen
      have := (List.getElem?_eq_some_iff.1 hy).1
      omega
    rw [hZ1, hB1] at h2'
    have hBZ : w.heap.size < B1 ∧ B1 ≤ Z1 := ⟨by omega, by omega⟩
    obtain ⟨hBw, hBZ⟩ := hBZ
    clear h2 b2 hb0 hT0
    go_wp2_with fail
    refine (spec_TrafficAll0 A n c t _ (hx.below b3 (Nat.le_refl _)) HS.out).mono ?_
    rintro e w4 ⟨rfl, m4, rfl⟩
    rw [HA.out]
    obtain ⟨S0, HS0⟩ : ∃ S, Hid (allS n F = S) := ⟨_, rfl⟩
    rw [HS0.out]
    go_wp2
    go_loopg [3, 5] N0 (fun g s3 s5 wr => ∃ (s : Nat) (A3 : Option Addr) (c3 : Nat) (hs : List Hd) (S : Int), s3 = .slice A3 s c3 ∧ s5 = .int .i64 S ∧ Hid (allS n (gL n F s) = S) ∧ TabH wr w.heap.size wr.heap.size A3 s c3 (gFr n F s) hs ∧ Av (fun g => B1 ≤ g ∧ g < Z1) A3 hs ∧ OwnT wr B1 Z1 A2 n c2 (tabF n (gL n F s)) ∧ Hid (∀ t, t < s → 0 < allS n (gL n F t)) ∧ Hid (g = (allS n (gL n F s)).toNat) ∧ s + g ≤ 216 ∧ Z1 ≤ wr.heap.size ∧ Below w.heap.size w wr)
    case atStart => exact ⟨0, _, _, hs0, S0, rfl, rfl, HS0.out, hT3.drewN _, hV0, h2'.drewN _, fun t ht => absurd ht (Nat.not_lt_zero _), HN0.out.symm, by omega, by simp; omega, below_drewN b3 _⟩
    case round =>
      clear h2' hT3 hV0 b3 hs3 hZ1 hB1
      obtain ⟨s, A3, c3, hs, S, rfl, rfl, HSS, hT3, hV3, hown, HA', HG, hsg, hZr, hbel⟩ := hrel
      have HBs : Hid (Bd n (gL n F s) 0 6) := gL_bd HB.out s
      have hAs := allS_bd h6 HBs.out
      rw [HSS.out] at hAs HG
      by_cases hS : 0 < S
      · have HP0 : Hid (0 < allS n (gL n F s)) := by show _ < _; rw [HSS.out]; exact hS
        obtain ⟨L, hLe⟩ : ∃ L, gL n F s = L := ⟨_, rfl⟩
        have HNX : Hid (gL n F (s + 1) = fun i j => L i j - hit i j (gS n L n)) := by rw [← hLe]; rfl
        have HNF : Hid (gFr n F (s + 1) = gFr n F s ++ [gS n L n]) := by rw [← hLe]; exact gFr_succ n F s
        have HNL : Hid (allS n (gL n F (s + 1)) < allS n L) := by show _ < _; rw [← hLe]; exact gL_less HB.out (by rw [HSS.out]; exact hS)
        rw [hLe] at HSS HBs hown
        obtain ⟨r, hr⟩ : ∃ r, gS n L n = r := ⟨_, rfl⟩
        have HRL : Hid (r.length = n) := by rw [← hr]; exact gS_len n L n
        have HRA : Hid (∀ k, k < n → r[k]? = some (pickN (gFree L (r.take k) k) n)) := fun k hk => by rw [← hr, gS_take n L (Nat.le_of_lt hk)]; exact gS_at n L hk
        have HRH : Hid (∀ i j, i < n → j < n → 0 ≤ L i j - hit i j r ∧ L i j - hit i j r ≤ 6) := fun i j hi hj => by
          have h1 := HBs.out i j hi hj
          have h2 := hit_bd i j r
          have h3 := gS_hit (n := n) (L := L) (j := j) hi
          rw [hr] at h3
          by_cases h4 : hit i j r = 1
          · have := h3 h4; omega
          · omega
        rw [hr] at HNX HNF
        clear hr hLe
        obtain ⟨U, hU⟩ : ∃ U, wr.heap.size = U := ⟨_, rfl⟩
        have hO0 := OwnL.lit (emb := iv) (e := 3) (B := U) wr [] (by simp) (by omega)
        have hT3a := hT3.allocU (Nat.le_refl _) (.cells #[] 3)
        have hown0 := hown.alloc (.cells #[] 3)
        have hbel0 := bbox hbel hbel.size (.cells #[] 3)
        rw [hU] at hT3a hZr
        have hUs : U < (wr.alloc (.cells #[] 3)).heap.size := by simp; omega
        go_wp2
        go_loopg [5, 6, 7] n (fun g' s5 s6 s7 wr' => ∃ (k : Nat) (As : Option Addr) (cs : Nat), k ≤ n ∧ g' = n - k ∧ s7 = .int .i64 k ∧ s6 = .slice As k cs ∧ s5 = .int .i64 (allS n (partL L r k)) ∧ OwnL iv wr' U 3 As k cs (r.take k) ∧ TabH wr' w.heap.size U A3 s c3 (gFr n F s) hs ∧ OwnT wr' B1 Z1 A2 n c2 (tabF n (partL L r k)) ∧ U < wr'.heap.size ∧ Below w.heap.size w wr')
        case atStart =>
          have e0 : partL L r 0 = L := by funext a b; unfold partL; rw [hitTo_zero]; omega
          exact ⟨0, _, _, Nat.zero_le _, rfl, rfl, rfl, by rw [e0, HSS.out], by rw [← hU] at hO0 ⊢; simpa using hO0, hT3a, by rw [e0]; exact hown0, hUs, hbel0⟩
        case round =>
          clear hT3 hT3a hown hown0 hbel hbel0 hO0 hUs hU
          obtain ⟨k, As, cs, hk, rfl, rfl, rfl, rfl, hS6, hT5, hL5, hUr, hb5⟩ := hrel
          by_cases hlt : k < n
          · have HRk := Lib.hid (HRA.out k hlt)
            obtain ⟨b, off, Ak, ck, rfl, hcY, hrY, hnY⟩ := hL5.rd.atF hlt
            obtain ⟨wo, hwo⟩ : ∃ wo : World, wo = wr := ⟨_, rfl⟩
            have HAb : Hid (-216 ≤ allS n (partL L r k) ∧ allS n (partL L r k) ≤ 216) := by
              have h0 := allS_bd (L := partL L r k) h6 (fun i j hi hj => by
                have h1 := HRH.out i j hi hj
                have h2 := HBs.out i j hi hj
                unfold partL hitTo
                split <;> omega)
              exact ⟨by omega, h0.2⟩
            obtain ⟨N, HN⟩ : ∃ N, Hid (allS n (partL L r k) = N) := ⟨_, rfl⟩
            rw [HN.out] at HAb ⊢
            obtain ⟨hN1, hN2⟩ := HAb.out
            subst hwo
            go_wp2
            go_loopg [8, 9] n (fun g'' s8 s9 wr => ∃ j q : Nat, j ≤ n ∧ g'' = n - j ∧ s9 = .int .i64 j ∧ s8 = .int .i64 (pickN (gFree L (r.take k) k) j) ∧ wr = wo.drewN q)
            case atStart => exact ⟨0, 0, Nat.zero_le _, rfl, rfl, rfl, rfl⟩
            case round =>
              obtain ⟨j, q, hj, rfl, rfl, rfl, rfl⟩ := hrel
              obtain ⟨T, HTv⟩ : ∃ T, Hid (pickN (gFree L (r.take k) k) j = T) := ⟨_, rfl⟩
              have hTb := pickN_bd (gFree L (r.take k) k) j
              rw [HTv.out] at hTb ⊢
              obtain ⟨hT1, hT2⟩ := hTb
              by_cases hjl : j < n
              · obtain ⟨b2, off2, x, rfl, HX, hcx⟩ := hrY.atF hjl
                have HXL : Hid (L k j = x) := by have := HX.out; rwa [part_here] at this
                have hxb : 0 ≤ x ∧ x ≤ 6 := by rw [← HXL.out]; exact HBs.out k j hlt hjl
                obtain ⟨hx0, hx1⟩ := hxb
                by_cases hT0 : 0 ≤ T
                · have hTz : decide (T < 0) = false := by simp; omega
                  have HK : Hid (pickN (gFree L (r.take k) k) (j + 1) = T) := by show _ = _; rw [pickN_keep (by rw [HTv.out]; exact hT0), HTv.out]
                  go_wp2
                  go_roundg (n - (j + 1))
                  case rel => exact ⟨j + 1, q, by omega, rfl, by go_num, by rw [HK.out], rfl⟩
                  case measure => omega
                · have hTn : T < 0 := by omega
                  by_cases hx : 0 < x
                  · cases hm : decide ((j : Int) ∈ r.take k) with
                    | true =>
                      have HM := Lib.hid hm; clear hm
                      have HK : Hid (pickN (gFree L (r.take k) k) (j + 1) = T) := by show _ = _; rw [pickN_no (by rw [HTv.out]; exact hTn) (by unfold gFree; rw [HM.out]; simp), HTv.out]
                      go_wp2_with fail
                      refine (has_is hS6.rd (by omega) HM.out).mono ?_
                      rintro e w5 ⟨rfl, m5, rfl⟩
                      go_wp2
                      go_roundg (n - (j + 1))
                      case rel => exact ⟨j + 1, _, by omega, rfl, by go_num, by rw [HK.out], rfl⟩
                      case measure => omega
                    | false =>
                      have HM := Lib.hid hm; clear hm
                      have HK : Hid (pickN (gFree L (r.take k) k) (j + 1) = j) := by show _ = _; rw [pickN_yes (by rw [HTv.out]; exact hTn) (by unfold gFree; rw [HM.out, HXL.out, decide_eq_true hx]; rfl)]
                      go_wp2_with fail
                      refine (has_is hS6.rd (by omega) HM.out).mono ?_
                      rintro e w5 ⟨rfl, m5, rfl⟩
                      go_wp2
                      go_roundg (n - (j + 1))
                      case rel => exact ⟨j + 1, _, by omega, rfl, by go_num, by rw [HK.out], rfl⟩
                      case measure => omega
                  · have hxz : decide (0 < x) = false := by simpa using hx
                    have HK : Hid (pickN (gFree L (r.take k) k) (j + 1) = T) := by show _ = _; rw [pickN_no (by rw [HTv.out]; exact hTn) (by unfold gFree; rw [HXL.out, hxz]; rfl), HTv.out]
                    go_wp2
                    go_roundg (n - (j + 1))
                    case rel => exact ⟨j + 1, q, by omega, rfl, by go_num, by rw [HK.out], rfl⟩
                    case measure => omega
              · obtain rfl : n = j := by omega
                rw [HTv.out] at HRk
                have HRv := HRk
                by_cases hT0 : 0 ≤ T
                · obtain ⟨v, rfl⟩ := Int.eq_ofNat_of_zero_le hT0
                  have hv : v < n := by omega
                  obtain ⟨W, hW⟩ : ∃ W : World, (wo.drewN q).drew = W := ⟨_, rfl⟩
                  have hL0 := (hL5.drewN q).drew
                  have hS0 := (hS6.drewN q).drew
                  have hT0' := (hT5.drewN q).drew
                  have hb0 := (below_drewN hb5 q).drew
                  have hUW : U < (wo.drewN q).drew.heap.size := hUr
                  rw [hW] at hL0 hS0 hT0' hb0 hUW
                  obtain ⟨g, gk, ck2, y, hA, q1, q2, q3, q4, q5, q6, q7, q8, q9, HY, q10, q11, HP⟩ := hL0.atF hlt hv
                  injection hA with hA; injection hA with hA1 hA2; subst hA1 hA2
                  have HYL : Hid (L k v = y) := by have := HY.out; rwa [part_here] at this
                  have hyb : 0 ≤ y ∧ y ≤ 6 := by rw [← HYL.out]; exact HBs.out k v hlt hv
                  obtain ⟨hy0, hy1⟩ := hyb
                  have HNN : Hid (allS n (partL L r (k + 1)) = N - 1) := by
                    show _ = _
                    rw [partL_sent HRv.out, allS_upd hlt hv, part_here, HN.out]; omega
                  have HPL : Hid (partL L r (k + 1) = upd (partL L r k) k v (y - 1)) := by show _ = _; rw [partL_sent HRv.out, HYL.out]
                  clear hcY hrY hnY
                  go_wp2_with fail
                  refine wp_region_still_tail 14 (by kernel_rfl) (by kernel_rfl) ?_
                  simp only [List.take_succ_cons, List.take_zero, List.drop_succ_cons, List.drop_zero]
                  change wpStill _ _ (World.drew (wo.drewN q)) (fun a' => wpList _ _ _ _ a' (World.drew (wo.drewN q))) _ _
                  rw [hW]
                  clear hW
                  repeat still_step
                  refine wpStill_nil ?_
                  have hS9 := hS0.far ⟨gk, v, none⟩ (.int .i64 (y - 1)) (fun e => by have := (hS0.lt e).1; simp at this; omega)
                  have hT9 := hT0'.keepV (w' := W.setCell ⟨gk, v, none⟩ (.int .i64 (y - 1))) hV3 ((Kb.refl _ W).set (.inl ⟨q6, q8⟩) _)
                  have hL9 : OwnT (W.setCell ⟨gk, v, none⟩ (.int .i64 (y - 1))) B1 Z1 (some ⟨b, 0, none⟩) n c2 (tabF n (partL L r (k + 1))) := by rw [HPL.out]; exact HP.out (y - 1)
                  have hb9 : Below w.heap.size w (W.setCell ⟨gk, v, none⟩ (.int .i64 (y - 1))) := hb0.setCell (by show w.heap.size ≤ gk; omega) _
                  have hU9 : U < (W.setCell ⟨gk, v, none⟩ (.int .i64 (y - 1))).heap.size := by simpa [World.setCell] using hUW
                  have hRD := rd_int (W.setCell ⟨gk, v, none⟩ (.int .i64 (y - 1))) (v : Int)
                  have hRDe : (W.setCell ⟨gk, v, none⟩ (.int .i64 (y - 1))).heap.size = W.heap.size := by simp [World.setCell]
                  rw [hRDe] at hRD
                  clear hS0 hT0' hL0 hb0 hS6 hT5 hL5 hb5 hUr
                  go_wp2_with (first
                    | (at_builtin; refine wpList_appLN (emb := iv) _ rfl (.tmp 67) (.tmp 69) _ rfl U 3 (.int .i64 0) 8 Try.underlying30 info_int rfl As k cs (r.take k) rfl (hS9.alloc _) _ 1 1 [(v : Int)] rfl hRD (fun _ => rfl) (k + 1) rfl _ rfl (by unfold maxLen; omega) (by omega) (by simp; omega) ?_; intro A6 c6 w6 O6 G6 L6)
                    | fail)
                  rw [← take_snoc HRv.out] at O6
                  have z6 := G6.size
                  simp at z6
                  have hUx := hU9
                  have hT6 : TabH w6 w.heap.size U A3 s c3 (gFr n F s) hs := (hT9.keep (w' := w6) (fun g h1 h2 => (G6.block g (by simp; omega) (fun e => by have := (hS9.lt e.symm).1; omega)).trans (Below.heap_alloc _ _ g (by omega))))
                  have hL6 : OwnT w6 B1 Z1 (some ⟨b, 0, none⟩) n c2 (tabF n (partL L r (k + 1))) := (hL9.alloc _).grown G6 (fun g hg => .inr (by have := (hS9.lt hg).1; omega))
                  have hb6 : Below w.heap.size w w6 := bgrown (bbox hb9 hb9.size _) G6 (by simp; omega) (fun g hg => by have := (hS9.lt hg).1; omega)
                  go_roundg (n - (k + 1))
                  case rel => exact ⟨k + 1, A6, c6, by omega, rfl, by go_num, rfl, by rw [HNN.out], O6, hT6, hL6, by omega, hb6⟩
                  case measure => omega
                · have hTz : decide (0 ≤ T) = false := by simpa using hT0
                  obtain rfl : T = -1 := by omega
                  have HNN : Hid (allS n (partL L r (k + 1)) = N) := by show _ = _; rw [partL_not HRv.out, HN.out]
                  have hS9 := hS6.drewN q
                  have hT9 := hT5.drewN q
                  have hL9 : OwnT (wo.drewN q) B1 Z1 (some ⟨b, off, none⟩) n c2 (tabF n (partL L r (k + 1))) := by rw [partL_not HRv.out]; exact hL5.drewN q
                  have hb9 := below_drewN hb5 q
                  have hU9 : U < (wo.drewN q).heap.size := hUr
                  clear hS6 hT5 hL5 hb5
                  go_wp2_with (first
                    | (at_builtin; refine wpList_appLN (emb := iv) _ rfl (.tmp 67) (.tmp 69) _ rfl U 3 (.int .i64 0) 8 Try.underlying30 info_int rfl As k cs (r.take k) rfl (hS9.alloc _) _ 1 1 [(-1 : Int)] rfl (rd_int _ _) (fun _ => rfl) (k + 1) rfl _ rfl (by unfold maxLen; omega) (by omega) (by simp; omega) ?_; intro A6 c6 w6 O6 G6 L6)
                    | fail)
                  rw [← take_snoc HRv.out] at O6
                  have z6 := G6.size
                  simp at z6
                  have hT6 : TabH w6 w.heap.size U A3 s c3 (gFr n F s) hs := (hT9.keep (w' := w6) (fun g h1 h2 => (G6.block g (by simp; omega) (fun e => by have := (hS9.lt e.symm).1; omega)).trans (Below.heap_alloc _ _ g (by omega))))
                  have hL6 : OwnT w6 B1 Z1 (some ⟨b, off, none⟩) n c2 (tabF n (partL L r (k + 1))) := (hL9.alloc _).grown G6 (fun g hg => .inr (by have := (hS9.lt hg).1; omega))
                  have hb6 : Below w.heap.size w w6 := bgrown (bbox hb9 hb9.size _) G6 (by simp; omega) (fun g hg => by have := (hS9.lt hg).1; omega)
                  go_roundg (n - (k + 1))
                  case rel => exact ⟨k + 1, A6, c6, by omega, rfl, by go_num, rfl, by rw [HNN.out], O6, hT6, hL6, by omega, hb6⟩
                  case measure => omega
          · obtain rfl : n = k := by omega
            have hrt : r.take n = r := List.take_of_length_le (by rw [HRL.out]; exact Nat.le_refl _)
            rw [hrt] at hS6
            have hUw : w.heap.size ≤ U := by omega
            have hS7 : OwnL iv wr w.heap.size 3 As n cs r := hS6.mono hUw
            have hSne : ∀ b, blk As = some b → U ≤ b := fun b hb => (hS6.lt hb).1
            have OH := hT5.own.alloc (.cells #[hdv ⟨As, n, cs⟩] 30)
            go_wp2_with (first
              | (at_builtin; refine wpList_appLN (emb := hdv) _ rfl (.tmp 71) (.tmp 73) _ rfl w.heap.size 30 (.slice none 0 0) 24 Try.underlying23 info_row rfl A3 s c3 hs rfl OH _ 1 1 [⟨As, n, cs⟩] rfl (rd_hd wr As n cs) hdv_one (s + 1) rfl _ rfl (by unfold maxLen; omega) (by omega) (by simp; omega) ?_; intro A6 c6 w6 O6 G6 L6)
              | fail)
            have z6 := G6.size
            simp at z6
            have hT6 := tab_push2 hT5 hS7 hSne (by omega) O6 G6 L6
            rw [← HNF.out] at hT6
            have hV6 : Av (fun g => B1 ≤ g ∧ g < Z1) A6 (hs ++ [⟨As, n, cs⟩]) := hV3.push (fun b hb h => by have := hSne b hb; omega) (fun b hb h => by
              rcases L6 with e | e
              · rw [e] at hb; exact hV3.1 b hb h
              · rw [e] at hb; injection hb with hb; simp at hb; omega)
            have ep : ∀ i j, i < n → j < n → partL L r n i j = gL n F (s + 1) i j := fun i j hi _ => by rw [HNX.out]; unfold partL; rw [hitTo_all _ hi]
            have hL6 : OwnT w6 B1 Z1 A2 n c2 (tabF n (gL n F (s + 1))) := ((hL5.cong ep).alloc _).grown G6 (fun g hg => by
              have h1 := hV3.1 g hg
              have h2 := (hT5.own.lt hg).1
              by_cases h3 : B1 ≤ g
              · right
                by_cases h4 : g < Z1
                · exact absurd ⟨h3, h4⟩ h1
                · omega
              · left; omega)
            have hb6 : Below w.heap.size w w6 := bgrown (bbox hb5 hb5.size _) G6 (by simp; omega) (fun g hg => (hT5.own.lt hg).1)
            have hSn : Hid (allS n (gL n F (s + 1)) = allS n (partL L r n)) := (allS_congr ep).symm
            have hpos := (allS_bd h6 (gL_bd HB.out (s + 1))).1
            have hgS := HG.out
            have hless := HNL.out
            rw [HSS.out] at hless
            go_roundg ((allS n (gL n F (s + 1))).toNat)
            case rel => exact ⟨s + 1, A6, c6, _, _, rfl, rfl, hSn, hT6, hV6, hL6, fun t ht => by
              rcases (by omega : t < s ∨ t = s) with h1 | rfl
              · exact HA'.out t h1
              · exact HP0.out, rfl, by omega, by omega, hb6⟩
            case measure => omega
      · have HE : Hid (GEnd n F s) := ⟨by rw [HSS.out]; omega, HA'.out⟩
        have hSz : decide (0 < S) = false := by simpa using hS
        go_wp2
        go_ret
        exact ⟨A3, s, c3, rfl, by rw [HV.out s HE.out]; exact ⟨hs, hT3⟩, hbel⟩
  · have HV : Hid (greedyL t = []) := greedyL_no hT
    have HF : Hid (leftL t [] = []) := leftL_no hT
    have HA : Hid (allL t = -1) := allL_no hT
    have HT := Lib.hid hT; clear hT
    go_enter Try.func33, Try.ntmps33
    go_wp2_with fail
    refine (spec_FrameLeft A n c t none 0 0 [] _ (hx.below hb0 (Nat.le_refl _)) RdT.nil hc (Nat.le_refl _) HS.out SmT.nil).mono ?_
    rintro e w3 ⟨A2, n2, c2, rfl, h2, b2⟩
    have b3 : Below w.heap.size w w3 := bstep hb0 b2
    have hT3 := hT0.tight.below b2 (Nat.le_refl _)
    have hz := b2.size
    go_wp2_with fail
    refine (spec_TrafficAll0 A n c t _ (hx.below b3 (Nat.le_refl _)) HS.out).mono ?_
    rintro e w4 ⟨rfl, m4, rfl⟩
    rw [HA.out]
    go_wp2
    go_loopg [3, 5] 0 (fun g s3 s5 wr => g = 0 ∧ s3 = .slice (some ⟨w.heap.size, 0, none⟩) 0 0 ∧ s5 = .int .i64 (-1) ∧ wr = w3.drewN m4)
    case atStart => exact ⟨rfl, rfl, rfl, rfl⟩
    case round =>
      obtain ⟨rfl, rfl, rfl, rfl⟩ := hrel
      go_wp2
      go_ret
      exact ⟨_, 0, 0, rfl, by rw [HV.out]; exact (hT3.up hz).drewN m4, below_drewN b3 _⟩
end Go.Proofs.Ythfjlellaojdmaa
