/- FrameGreedy of the program. Condition: tables of at most 1048576 numbers. -/
import Derived.Test.Ythfjlellaojdmaa5g
namespace Go.Proofs.Ythfjlellaojdmaa
open Go.RowKit
set_option linter.unusedSimpArgs false
set_option linter.unusedVariables false
theorem allS_bd {n : Nat} {L : Nat → Nat → Int} (hn : n ≤ 6) (h : Bd n L 0 6) : 0 ≤ allS n L ∧ allS n L ≤ 216 := by
  have hr : ∀ i, i < n → 0 ≤ rowS n L i ∧ rowS n L i ≤ 36 := fun i hi => by
    have := sumN_between (f := L i) (n := n) (k := n) (fun j hj => h i j hi hj) (Nat.le_refl _)
    unfold rowS; omega
  have := sumN_between (f := rowS n L) (n := n) (k := n) hr (Nat.le_refl _)
  unfold allS; omega
theorem rows_sm {rows : List (List Int)} {n m : Nat} (hl : rows.length ≤ m) (hm : m ≤ 1000) (h : ∀ r ∈ rows, r.length = n) (hn : n ≤ 6) : SmT rows := by
  have h1 := flat_const (rows := rows) (m := 6) (fun r hr => by rw [h r hr]; exact hn)
  exact ⟨by omega, by omega⟩
theorem GEnd.le {n : Nat} {f : Nat → Nat → Int} (hb : Bd n f 0 6) {s : Nat} (h : ∀ t, t < s → 0 < allS n (gL n f t)) : (s : Int) + allS n (gL n f s) ≤ allS n f := by
  induction s with
  | zero => show (0 : Int) + allS n f ≤ _; omega
  | succ s ih =>
    have h1 := ih (fun t ht => h t (by omega))
    have h2 := gL_less hb (h s (by omega))
    omega
theorem greedy_end {n : Nat} {f : Nat → Nat → Int} (hb : Bd n f 0 6) : ∃ s, GEnd n f s := by
  have key : ∀ m s : Nat, allS n (gL n f s) ≤ m → (∀ t, t < s → 0 < allS n (gL n f t)) → ∃ s, GEnd n f s := by
    intro m
    induction m with
    | zero => intro s h1 h2; exact ⟨s, by omega, h2⟩
    | succ m ih =>
      intro s h1 h2
      by_cases h3 : 0 < allS n (gL n f s)
      · have h4 := gL_less hb h3
        exact ih (s + 1) (by omega) (fun t ht => by
          rcases (by omega : t < s ∨ t = s) with h5 | rfl
          · exact h2 t h5
          · exact h3)
      · exact ⟨s, by omega, h2⟩
  exact key (allS n f).toNat 0 (by show allS n f ≤ _; omega) (fun t ht => by omega)
theorem greedy_sm {t : List (List Int)} (h : SmT t) : SmT (greedyL t) := by
  by_cases hT : TrafOk t
  · obtain ⟨s, hs⟩ := greedy_end hT.bd6
    have h1 := GEnd.le hT.bd6 hs.2
    have h2 := allS_bd hT.six hT.bd6
    have h3 := allS_bd hT.six (gL_bd hT.bd6 s)
    rw [greedyL_yes hT hs]
    exact rows_sm (n := t.length) (m := 216) (by rw [gFr_len]; omega) (by omega) (fun r hr => (gFr_ok _ _ _ r hr).1) hT.six
  · rw [greedyL_no hT]; exact SmT.nil
set_option maxRecDepth 100000 in
set_option maxHeartbeats 2000000 in
theorem impl_FrameGreedy (A : Option Addr) (n c : Nat) (t : List (List Int)) (w : World) (hx : RdT w A n t) (hc : n ≤ c) (hs : SmT t) :
    Calls Try.prog 32 #[.slice A n c] w (RetT (greedyL t) w) := by
  have HL := hx.len
  have HS := Lib.hid hs; clear hs
  by_cases hT : TrafOk t
  · have HV : Hid (∀ s, GEnd n (fOf t) s → greedyL t = gFr n (fOf t) s) := fun s hs => by rw [greedyL_yes hT (s := s) (by rw [HL.out]; exact hs), HL.out]
    have h6 : n ≤ 6 := by rw [← HL.out]; exact hT.six
    have HB : Hid (Bd n (fOf t) 0 6) := by have := hT.bd6; rwa [HL.out] at this
    have HF : Hid (t = tabF n (fOf t)) := by have := hT.tab; rwa [HL.out] at this
    have HT := Lib.hid hT; clear hT
    obtain ⟨F, hF⟩ : ∃ F, fOf t = F := ⟨_, rfl⟩
    rw [hF] at HB HV HF
    clear hF
    obtain ⟨N0, hN0⟩ : ∃ N : Nat, (allS n F).toNat = N := ⟨_, rfl⟩
    have hAll := allS_bd h6 HB.out
    have hN1 : N0 ≤ 216 := by omega
    go_enter Try.func32, Try.ntmps32
    go_wp2_with (go_at_call 40; refine (retB_is (b := true) ⟨fun _ => HT.out, fun _ => rfl⟩ (impl_TrafficValid A n c t _ hx HS.out)).mono ?_; rintro e w1 ⟨rfl, m1, rfl⟩)
    refine (impl_copyTable A n c t _ (hx.drewN _) HS.out).mono ?_
    rintro e w2 ⟨A2, c2, rfl, h2, b2⟩
    have b2' : Below w.heap.size w w2 := bstep (below_drewN (Below.refl _ _) m1) b2
    have h2' : OwnT w2 w.heap.size w2.heap.size A2 n c2 t := h2
    clear b2 h2
    obtain ⟨Z, hZ⟩ : ∃ Z, w2.heap.size = Z := ⟨_, rfl⟩
    rw [hZ] at h2'
    have hZ0 : w.heap.size ≤ Z := by rw [← hZ]; exact b2'.size
    obtain ⟨hs0, hT0⟩ := (OwnT.nil : OwnT w2 Z w2.heap.size none 0 0 [])
    have HN0 := Lib.hid hN0
    clear hN0 hAll
    go_wp2
    go_loopg [4] N0 (fun g s4 wr => ∃ (s : Nat) (A3 : Option Addr) (c3 : Nat) (hs : List Hd), s4 = .slice A3 s c3 ∧ TabH wr Z wr.heap.size A3 s c3 (gFr n F s) hs ∧ OwnT wr w.heap.size Z A2 n c2 (tabF n (gL n F s)) ∧ Hid (∀ t, t < s → 0 < allS n (gL n F t)) ∧ Hid (g = (allS n (gL n F s)).toNat) ∧ s + g ≤ 216 ∧ Z ≤ wr.heap.size ∧ Below w.heap.size w wr)
    case atStart => exact ⟨0, none, 0, hs0, rfl, hT0, by rw [HF.out] at h2'; exact h2', fun t ht => absurd ht (Nat.not_lt_zero _), HN0.out.symm, by omega, by omega, b2'⟩
    case round =>
      clear h2' hT0 b2' hZ
      obtain ⟨s, A3, c3, hs, rfl, hT3, hown, HA, HG, hsg, hZr, hbel⟩ := hrel
      have HBs : Hid (Bd n (gL n F s) 0 6) := gL_bd HB.out s
      have hAs := allS_bd h6 HBs.out
      go_wp2_with fail
      refine (impl_allUnits A2 n c2 (gL n F s) _ hown.rd h6 (HBs.out.k (by omega) (by omega))).mono ?_
      rintro e w3 ⟨rfl, m3, rfl⟩
      obtain ⟨S, HSS⟩ : ∃ S, Hid (allS n (gL n F s) = S) := ⟨_, rfl⟩
      rw [HSS.out] at hAs ⊢
      rw [HSS.out] at HG
      by_cases hS : 0 < S
      · go_wp2_with fail
        refine (impl_greedySlot A2 n c2 (gL n F s) w.heap.size Z _ (hown.drewN m3) (by simpa using hZr) h6 (fun i j hi hj => by have := HBs.out i j hi hj; omega)).mono ?_
        rintro e w4 ⟨A4, c4, rfl, h4, hL4, K4⟩
        have z4 : wr.heap.size ≤ w4.heap.size := K4.size
        have hT4 := hT3.keep (w' := w4) (fun g h1 h2 => K4.block g h2 (fun h => by omega))
        have h4a : ∀ b, blk A4 = some b → wr.heap.size ≤ b := fun b hb => (h4.lt hb).1
        have h4b : OwnL iv w4 Z 3 A4 n c4 (gS n (gL n F s) n) := h4.mono hZr
        have b4 : Below w.heap.size w w4 := Kb.below_of (below_drewN hbel m3) K4 (by simpa using hbel.size) (fun g h1 h2 => by omega)
        have OH := hT4.own.alloc (.cells #[hdv ⟨A4, n, c4⟩] 30)
        clear h4
        go_wp2_with (first
          | (at_builtin; refine wpList_appLN (emb := hdv) _ rfl (.tmp 13) (.tmp 16) _ rfl Z 30 (.slice none 0 0) 24 Try.underlying23 info_row rfl A3 s c3 hs rfl OH _ 1 1 [⟨A4, n, c4⟩] rfl (rd_hd w4 A4 n c4) hdv_one (s + 1) rfl _ rfl (by unfold maxLen; omega) (by omega) (by simp; omega) ?_; intro A6 c6 w6 O6 G6 L6)
          | fail)
        have z6 := G6.size
        simp at z6
        have hT6 := tab_push2 hT4 h4b h4a z4 O6 G6 L6
        rw [← gFr_succ] at hT6
        have hL6 : OwnT w6 w.heap.size Z A2 n c2 (tabF n (gL n F (s + 1))) := (hL4.alloc _).grown G6 (fun g hg => .inr (hT4.own.lt hg).1)
        have hb6 : Below w.heap.size w w6 := bgrown (bbox b4 b4.size _) G6 (by simp; omega) (fun g hg => by have := (hT4.own.lt hg).1; omega)
        have hless : allS n (gL n F (s + 1)) < S := by rw [← HSS.out]; exact gL_less HB.out (by rw [HSS.out]; exact hS)
        have hpos := (allS_bd h6 (gL_bd HB.out (s + 1))).1
        have hgS := HG.out
        go_roundg ((allS n (gL n F (s + 1))).toNat)
        case rel => exact ⟨s + 1, A6, c6, _, rfl, hT6, hL6, fun t ht => by
          rcases (by omega : t < s ∨ t = s) with h1 | rfl
          · exact HA.out t h1
          · rw [HSS.out]; exact hS, rfl, by omega, by omega, hb6⟩
        case measure => omega
      · have HE : Hid (GEnd n F s) := ⟨by rw [HSS.out]; omega, HA.out⟩
        have hSz : decide (0 < S) = false := by simpa using hS
        go_wp2
        go_ret
        exact ⟨A3, s, c3, rfl, by rw [HV.out s HE.out]; exact (OwnT.mono ⟨hs, hT3⟩ hZ0).drewN m3, below_drewN hbel _⟩
  · have HV : Hid (greedyL t = []) := greedyL_no hT
    have HT := Lib.hid hT; clear hT
    go_enter Try.func32, Try.ntmps32
    go_wp2_with (go_at_call 40; refine (retB_is (b := false) ⟨fun h => by simp at h, fun h => absurd h HT.out⟩ (impl_TrafficValid A n c t _ hx HS.out)).mono ?_; rintro e w1 ⟨rfl, m1, rfl⟩)
    go_ret
    exact RetT.no HV.out (below_drewN (Below.refl _ _) _) 0
end Go.Proofs.Ythfjlellaojdmaa
