/- turnedBack and lowerInputs of the program: who goes through the lower network. Condition: 4 or 8 lines. -/
import Derived.Test.Ytiahpaakkijejaa3kp
import Derived.Test.Ytiahpaakkijejaa3d
namespace Go.Proofs.Ytiahpaakkijejaa
open Go.RowKit
set_option linter.unusedSimpArgs false
set_option linter.unusedVariables false
theorem impl_turnedBack (A : Option Addr) (n c : Nat) (q : Nat → Nat) (w : World) (h : IsP n q) (hx : RdL iv w A n (permN n q)) (hn : n ≤ 1048576) :
    Calls Try.prog 71 #[.slice A n c] w (RetO iv 3 (permN n (invP n q)) w) := by
  have HP := Lib.hid h
  clear h
  have HSC := Lib.hid (back_all HP.out)
  have hmk := run_make_row' (P := Try.prog) 25 3 (.int .i64 0) 8 Try.underlying25 info_int rfl .i64 .i64 n (by omega) (by omega)
  go_enter Try.func71, Try.ntmps71
  go_wp2
  clear hmk
  go_loopg [11] n (fun g i wr => ∃ k : Nat, k ≤ n ∧ g = n - k ∧ i = .int .i64 k ∧ OwnL iv wr w.heap.size 3 (some ⟨w.heap.size, 0, none⟩) n n (scat (List.replicate n 0) (stBack q) k) ∧ Below w.heap.size w wr)
  case atStart => exact ⟨0, Nat.zero_le _, rfl, rfl, OwnL.made w 0 n (by unfold maxLen; omega) _ (Nat.le_refl _), (Below.refl _ _).alloc (Nat.le_refl _) _⟩
  case round =>
    obtain ⟨k, hk, rfl, rfl, hown, hbel⟩ := hrel
    by_cases hlt : k < n
    · obtain ⟨b, off, x, rfl, HX, g⟩ := (hx.below hbel (Nat.le_refl _)).at hlt
      have hx' : x = (q k : Int) := by have h := HX.out; rw [permN_at hlt] at h; injection h with h; exact h.symm
      obtain ⟨V, HV⟩ : ∃ V, Hid (q k = V) := ⟨_, rfl⟩
      rw [HV.out] at hx'
      subst hx'
      have hV : V < n := by rw [← HV.out]; exact HP.out.1 k hlt
      have HSS : Hid (scat (List.replicate n 0) (stBack q) (k + 1) = (scat (List.replicate n 0) (stBack q) k).set V (k : Int)) := scat_some (by unfold stBack; rw [HV.out])
      obtain ⟨g', y, hA, hB, hg', HY, gc, gf⟩ := hown.at hV
      injection hA with hA; injection hA with hA; subst hA
      go_wp2
      go_roundg (n - (k + 1))
      case rel => exact ⟨k + 1, by omega, rfl, by go_num, by rw [HSS.out]; exact OwnL.set hown V (k : Int), hbel.setCell (Nat.le_refl _) _⟩
      case measure => omega
    · go_wp2
      go_ret
      obtain rfl : k = n := by omega
      exact ⟨_, _, _, rfl, by rw [← HSC.out]; exact hown, hbel⟩
set_option maxHeartbeats 4000000 in
theorem impl_lowerInputs (A : Option Addr) (n c : Nat) (q : Nat → Nat) (w : World) (hn : n = 4 ∨ n = 8) (h : IsP n q) (hx : RdL iv w A n (permN n q)) :
    Calls Try.prog 67 #[.slice A n c] w (RetO bv 4 (lowN n (lowF n q)) w) := by
  have HP := Lib.hid h
  have HN := Lib.hid hn
  have hn8 : n ≤ 8 := by omega
  have HE := Lib.hid (lowS_end hn h)
  clear h hn
  obtain ⟨b, off, y0, rfl, HY0, gb⟩ := hx.at (k := 0) (by have := HN.out; omega)
  have hbw : b < w.heap.size := World.block_lt_of_cell? _ _ gb
  clear gb HY0
  obtain ⟨sig, HSG⟩ : ∃ s, Hid (sigL n q = s) := ⟨_, rfl⟩
  have HSD : Hid (∀ a, a < n → sig.getD a 0 = invP n q (swp (q a)) ∧ invP n q (swp (q a)) < n ∧ swp (q a) < n ∧ q a < n) := fun a ha => by
    have he : n % 2 = 0 := by have := HN.out; omega
    rw [← HSG.out]
    exact ⟨sigL_getD ha, sig_lt he HP.out ha, swp_lt2 he (HP.out.1 a ha), HP.out.1 a ha⟩
  rw [HSG.out] at HE
  have hmk := run_make_row' (P := Try.prog) 31 4 (.bool false) 1 Try.underlying31 info_bool rfl .i64 .i64 n (by omega) (by omega)
  go_enter Try.func67, Try.ntmps67
  go_wp2_with fail
  refine (impl_turnedBack _ n c q _ HP.out hx (by omega)).mono ?_
  rintro e w1 ⟨A1, n1, c1, rfl, O1, B1⟩
  obtain rfl : n1 = n := by rw [← O1.len.out, permN_len]
  obtain ⟨gbk, yk, hA1, hgk0, hgk1, HYk, ck, fk⟩ := O1.at (k := 0) (by have := HN.out; omega)
  subst hA1
  clear HYk ck fk
  have hz1 := B1.size
  go_wp2
  clear hmk
  have OL : OwnL bv ((w1.alloc (.cells (madeCells #[.bool false] n1) 4)).alloc (.cells (madeCells #[.bool false] n1) 4)) w.heap.size 4 (some ⟨w1.heap.size, 0, none⟩) n1 n1 (List.replicate n1 false) := OwnL.alloc (OwnL.made w1 false n1 (by unfold maxLen; omega) _ hz1) _
  have OT : OwnL bv ((w1.alloc (.cells (madeCells #[.bool false] n1) 4)).alloc (.cells (madeCells #[.bool false] n1) 4)) w.heap.size 4 (some ⟨w1.heap.size + 1, 0, none⟩) n1 n1 (List.replicate n1 false) := by
    have := OwnL.made (emb := bv) (e := 4) (w1.alloc (.cells (madeCells #[.bool false] n1) 4)) false n1 (by unfold maxLen; omega) w.heap.size (by simp; omega)
    simpa using this
  have OB : OwnL iv ((w1.alloc (.cells (madeCells #[.bool false] n1) 4)).alloc (.cells (madeCells #[.bool false] n1) 4)) w.heap.size 3 (some ⟨gbk, 0, none⟩) n1 c1 (permN n1 (invP n1 q)) := (O1.alloc _).alloc _
  have BW : Below w.heap.size w ((w1.alloc (.cells (madeCells #[.bool false] n1) 4)).alloc (.cells (madeCells #[.bool false] n1) 4)) := (B1.alloc hz1 _).alloc (by simp; omega) _
  rw [← lowS_start] at OL
  rw [← toldL_start] at OT
  clear O1
  go_loopg [19] n1 (fun g i wr => ∃ k : Nat, k ≤ n1 ∧ g = n1 - k ∧ i = .int .i64 k ∧ OwnL bv wr w.heap.size 4 (some ⟨w1.heap.size, 0, none⟩) n1 n1 (lowS (outerL sig n1 k)) ∧ OwnL bv wr w.heap.size 4 (some ⟨w1.heap.size + 1, 0, none⟩) n1 n1 (toldL (outerL sig n1 k)) ∧ OwnL iv wr w.heap.size 3 (some ⟨gbk, 0, none⟩) n1 c1 (permN n1 (invP n1 q)) ∧ Below w.heap.size w wr)
  case atStart => exact ⟨0, Nat.zero_le _, rfl, rfl, OL, OT, OB, BW⟩
  case round =>
    clear OL OT OB BW
    obtain ⟨k, hk, rfl, rfl, hlow, htold, hback, hbel⟩ := hrel
    by_cases hlt : k < n1
    · go_wp2
      go_loopg [7] n1 (fun g i wr => ∃ (a : Nat) (side : List Int), a < n1 ∧ i = .int .i64 a ∧ Hid (InL sig n1 (outerL sig n1 (k + 1)) side a g) ∧ OwnL bv wr w.heap.size 4 (some ⟨w1.heap.size, 0, none⟩) n1 n1 (lowS side) ∧ OwnL bv wr w.heap.size 4 (some ⟨w1.heap.size + 1, 0, none⟩) n1 n1 (toldL side) ∧ OwnL iv wr w.heap.size 3 (some ⟨gbk, 0, none⟩) n1 c1 (permN n1 (invP n1 q)) ∧ Below w.heap.size w wr)
      case atStart => exact ⟨k, _, hlt, rfl, InL.start sig n1 k, hlow, htold, hback, hbel⟩
      case round =>
        clear hlow htold hback hbel
        obtain ⟨a, side, ha, rfl, HIN, hlow, htold, hback, hbel⟩ := hrel
        obtain ⟨g1, y, hA, p1, p2, HY, p3, p4⟩ := htold.at ha
        injection hA with hA; injection hA with hA; subst hA
        obtain ⟨x, hsx, hyx⟩ := toldL_at HY.out
        cases y with
        | true =>
          have hx0 : ¬ x < 0 := by have := of_decide_eq_true hyx.symm; omega
          have HST := Lib.hid (HIN.out.stop hsx hx0)
          clear hsx hyx hx0 HIN
          go_wp2
          go_roundg (n1 - (k + 1))
          case rel => exact ⟨k + 1, by omega, rfl, by go_num, by rw [HST.out]; exact hlow, by rw [HST.out]; exact htold, hback, hbel⟩
          case measure => omega
        | false =>
          have hx0 : x < 0 := by have := of_decide_eq_false hyx.symm; omega
          have HLO := Lib.hid (round_low sig hsx hx0)
          have HTO := Lib.hid (round_told sig side a)
          have HGO := Lib.hid (HIN.out.go hsx hx0)
          clear hsx hyx hx0 HIN HY
          obtain ⟨s1, s2, s3, s4⟩ := HSD.out a ha
          obtain ⟨v, HV⟩ : ∃ v, Hid (q a = v) := ⟨_, rfl⟩
          rw [HV.out] at s1 s2 s3 s4
          obtain ⟨u, HU⟩ : ∃ u, Hid (swp v = u) := ⟨_, rfl⟩
          rw [HU.out] at s1 s2 s3
          obtain ⟨o, HO⟩ : ∃ o, Hid (invP n1 q u = o) := ⟨_, rfl⟩
          rw [HO.out] at s1 s2
          obtain ⟨z, HZ⟩ : ∃ z, Hid (swp o = z) := ⟨_, rfl⟩
          have hz : z < n1 := by rw [← HZ.out]; exact swp_lt2 (by have := HN.out; omega) s2
          rw [s1] at HLO HTO HGO
          rw [HZ.out] at HGO
          clear s1
          have X1 := i64_xor1 v (by omega)
          have X2 := i64_xor1 o (by omega)
          rw [HU.out] at X1
          rw [HZ.out] at X2
          obtain ⟨b', off', x', hA, HX, gx⟩ := (hx.below hbel (Nat.le_refl _)).at ha
          injection hA with hA; injection hA with hA1 hA2; subst hA1 hA2
          have hx' : x' = (v : Int) := by have h := HX.out; rw [permN_at ha, HV.out] at h; injection h with h; exact h.symm
          subst hx'
          clear HX
          obtain ⟨g2, y2, hA, p5, p6, HY2, p7, p8⟩ := hback.at s3
          injection hA with hA; injection hA with hA; subst hA
          have hy2 : y2 = (o : Int) := by have h := HY2.out; rw [permN_at s3, HO.out] at h; injection h with h; exact h.symm
          subst hy2
          clear HY2
          have T1 := htold.set a true
          obtain ⟨g3, y3, hA, p9, p10, HY3, p11, p12⟩ := T1.at s2
          injection hA with hA; injection hA with hA; subst hA
          obtain ⟨g4, y4, hA, p13, p14, HY4, p15, p16⟩ := hlow.at s2
          injection hA with hA; injection hA with hA; subst hA
          clear HY3 HY4
          have e1 : (wr.setCell ⟨w1.heap.size + 1, a, none⟩ (.bool true)).cell? ⟨b, off + a, none⟩ = some (iv v) := by rw [World.cell?_setCell_other _ _ _ _ (fun e => by injection e with e; omega)]; exact gx
          have e2 : (wr.setCell ⟨w1.heap.size + 1, a, none⟩ (.bool true)).cell? ⟨gbk, u, none⟩ = some (iv o) := by rw [World.cell?_setCell_other _ _ _ _ (fun e => by injection e with e; omega)]; exact p7
          have T2 := (T1.set o true).far ⟨w1.heap.size, o, none⟩ (.bool true) (fun e => by rw [blk_some] at e; injection e with e; simp at e)
          have L2 := ((hlow.far ⟨w1.heap.size + 1, a, none⟩ (.bool true) (fun e => by rw [blk_some] at e; injection e with e; simp at e)).far ⟨w1.heap.size + 1, o, none⟩ (.bool true) (fun e => by rw [blk_some] at e; injection e with e; simp at e)).set o true
          have B2 := ((hback.far ⟨w1.heap.size + 1, a, none⟩ (.bool true) (fun e => by rw [blk_some] at e; injection e with e; simp at e; omega)).far ⟨w1.heap.size + 1, o, none⟩ (.bool true) (fun e => by rw [blk_some] at e; injection e with e; simp at e; omega)).far ⟨w1.heap.size, o, none⟩ (.bool true) (fun e => by rw [blk_some] at e; injection e with e; simp at e; omega)
          have K2 := ((hbel.setCell (p := ⟨w1.heap.size + 1, a, none⟩) (by show w.heap.size ≤ w1.heap.size + 1; omega) (.bool true)).setCell (p := ⟨w1.heap.size + 1, o, none⟩) (by show w.heap.size ≤ w1.heap.size + 1; omega) (.bool true)).setCell (p := ⟨w1.heap.size, o, none⟩) (by show w.heap.size ≤ w1.heap.size; omega) (.bool true)
          rw [HTO.out] at T2
          rw [HLO.out] at L2
          obtain ⟨g', hg', HIN⟩ := HGO.out
          clear HGO HTO HLO
          go_wp2
          go_roundg g'
          case rel => exact ⟨z, _, hz, rfl, HIN, L2, T2, B2, K2⟩
          case measure => omega
    · go_wp2
      go_ret
      obtain rfl : k = n1 := by omega
      exact ⟨_, _, _, rfl, by rw [← HE.out]; exact hlow, hbel⟩
end Go.Proofs.Ytiahpaakkijejaa
