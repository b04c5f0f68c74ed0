/- LoopSet of the program on a permutation of 2, 4 or 8 lines. No further condition. -/
import Derived.Test.Ytiahpaakkijejaa3k1
import Derived.Test.Ytiahpaakkijejaa3e
import Derived.Test.Ytiahpaakkijejaa3g
namespace Go.Proofs.Ytiahpaakkijejaa
open Go.RowKit
set_option linter.unusedSimpArgs false
set_option linter.unusedVariables false
theorem permN_ok {n : Nat} {q : Nat → Nat} (h : IsP n q) : PermOk (permN n q) := by
  intro i x hx
  have hi : i < n := by have := (List.getElem?_eq_some_iff.1 hx).1; rwa [permN_len] at this
  rw [permN_at hi] at hx
  injection hx with hx
  subst hx
  have h1 := h.1 i hi
  refine ⟨by omega, by rw [permN_len]; omega, fun hm => ?_⟩
  obtain ⟨k, hk⟩ := List.mem_iff_getElem?.1 hm
  rw [List.getElem?_take] at hk
  split at hk
  · rename_i hki
    rw [permN_at (by omega)] at hk
    injection hk with hk
    have := h.2 k i (by omega) hi (by omega)
    omega
  · cases hk
theorem run_make_room {P : Program} (t e : TypeId) (z : Value) (bytes : Nat) (ht : P.underlying t = some (.slice e)) (hinfo : (P.info? e).map (fun i => (i.zero, i.size, i.bytes)) = some (some z, 1, bytes)) (hz1 : z.cells = #[z])
    (kl kc : IntKind) (n c : Nat) (hnc : n ≤ c) (hbytes : bytes * c ≤ 281474976710656) (h63 : c ≤ 9223372036854775807) (w : World) :
    (Instr.makeSlice t (.int kl (n : Int)) (.int kc (c : Int))).run P w = .ok (.slice (some ⟨w.heap.size, 0, none⟩) n c) (w.alloc (.cells (madeCells #[z] c) e)) := by
  obtain ⟨i, hi, hz, hs, hb⟩ := info_parts hinfo
  have hb' : (i.bytes : Int) * (c : Int) ≤ 281474976710656 := by
    have h : ((i.bytes * c : Nat) : Int) ≤ 281474976710656 := by rw [hb]; omega
    rwa [Int.natCast_mul] at h
  have hr := run_make (P := P) w t e i z ht hi hz kl kc n c (by omega) (by omega) hb' (by omega)
  simp only [Int.toNat_natCast, hs, Nat.mul_one, hz1] at hr
  exact hr
theorem OwnL.room {α : Type} {emb : α → Value} {e : TypeId} (w : World) (z : α) (n M : Nat) (hn : n ≤ M) (hM : M ≤ maxLen) (B : Nat) (hB : B ≤ w.heap.size) : OwnL emb (w.alloc (.cells (madeCells #[emb z] M) e)) B e (some ⟨w.heap.size, 0, none⟩) n M (List.replicate n z) := by
  have h := (OwnL.made (emb := emb) (e := e) w z M hM B hB).tops (n' := n) hn
  rwa [List.take_replicate, Nat.min_eq_left hn] at h
theorem st_up_no {low : Nat → Bool} {q : Nat → Nat} {k : Nat} (h : low k = true) : stUp low q k = none := by unfold stUp; rw [if_pos h]
theorem st_up {low : Nat → Bool} {q : Nat → Nat} {k j W : Nat} (h : low k = false) (hj : k / 2 = j) (hW : q k / 2 = W) : stUp low q k = some (j, (W : Int)) := by unfold stUp; rw [h, hj, hW]; rfl
theorem st_lo_no {low : Nat → Bool} {q : Nat → Nat} {k : Nat} (h : low k = false) : stLo low q k = none := by unfold stLo; rw [h]; rfl
theorem st_lo {low : Nat → Bool} {q : Nat → Nat} {k j W : Nat} (h : low k = true) (hj : k / 2 = j) (hW : q k / 2 = W) : stLo low q k = some (j, (W : Int)) := by unfold stLo; rw [h, hj, hW]; rfl
theorem st_fst_no {low : Nat → Bool} {k : Nat} (h : ¬ k % 2 = 0) : stFst low k = none := by unfold stFst; rw [if_neg h]
theorem st_fst {low : Nat → Bool} {k j : Nat} {y : Bool} (h : k % 2 = 0) (hj : k / 2 = j) (hy : low k = y) : stFst low k = some (j, y) := by unfold stFst; rw [if_pos h, hj, hy]
theorem st_lst_no {low : Nat → Bool} {q : Nat → Nat} {k : Nat} (h : ¬ q k % 2 = 0) : stLst low q k = none := by unfold stLst; rw [if_neg h]
theorem st_lst {low : Nat → Bool} {q : Nat → Nat} {k W : Nat} {y : Bool} (h : q k % 2 = 0) (hW : q k / 2 = W) (hy : low k = y) : stLst low q k = some (W, y) := by unfold stLst; rw [if_pos h, hW, hy]
theorem loop_two {q : Nat → Nat} {t : Bool} (h : decide ((q 0 : Int) = 1) = t) : loopL 0 q = [t] := by
  rw [← h]
  show [setF 0 q 0] = _
  have : setF 0 q 0 = (q 0 == 1) := rfl
  rw [this]
  congr 1
  by_cases e : q 0 = 1
  · rw [e]; rfl
  · rw [decide_eq_false (by omega)]; simp [e]
theorem ne_blk {a b : Nat} (h : a ≠ b) : blk (some ⟨a, 0, none⟩) ≠ some b := by rw [blk_some]; intro e; injection e with e; exact h e
theorem impl_LoopSet0 (A : Option Addr) (c : Nat) (q : Nat → Nat) (w : World) (h : IsP 2 q) (hx : RdL iv w A 2 (permN 2 q)) (hc : 2 ≤ c) :
    Calls Try.prog 36 #[.slice A 2 c] w (RetOB bv 4 (loopL 0 q, true) w) := by
  have HP := Lib.hid h
  clear h
  obtain ⟨b, off, x, rfl, HX, gx⟩ := hx.at (k := 0) (by omega)
  have hx' : x = (q 0 : Int) := by have h := HX.out; rw [permN_at (by omega)] at h; injection h with h; exact h.symm
  clear HX
  obtain ⟨V, HV⟩ : ∃ V, Hid (q 0 = V) := ⟨_, rfl⟩
  rw [HV.out] at hx'
  subst hx'
  have hbw : b < w.heap.size := World.block_lt_of_cell? _ _ gx
  have hV : V < 2 := by rw [← HV.out]; exact HP.out.1 0 (by omega)
  have HT : ∀ t : Bool, decide ((V : Int) = 1) = t → Hid (loopL 0 q = [t]) := fun t ht => loop_two (by rw [HV.out]; exact ht)
  go_enter Try.func36, Try.ntmps36
  go_wp2_with fail
  refine (impl_LoopMany 2 _).mono ?_
  rintro e w1 ⟨rfl, m1, rfl⟩
  rw [show lManyI 2 = 1 from rfl]
  go_wp2_with fail
  refine (impl_isOrder _ 2 c _ _ (hx.drewN m1) (by omega)).mono ?_
  rintro e w2 hw2
  obtain ⟨rfl, B2⟩ := retm_yes hw2 (permN_ok HP.out)
  have gx2 : w2.cell? ⟨b, off, none⟩ = some (iv V) := (B2.cell (p := ⟨b, off, none⟩) hbw).trans (by simpa using gx)
  have BW2 := bstep (below_drewN (Below.refl w.heap.size w) m1) B2
  have hz2 := BW2.size
  clear gx hw2
  rcases (by omega : V = 0 ∨ V = 1) with rfl | rfl
  · go_wp2_with fail
    go_ret2
    exact RetOB.mk [false] (by rw [(HT false rfl).out]) (OwnL.lit w2 [false] (by simp [maxLen]) hz2) (BW2.alloc hz2 _)
  · go_wp2_with fail
    go_ret2
    exact RetOB.mk [true] (by rw [(HT true rfl).out]) (OwnL.lit w2 [true] (by simp [maxLen]) hz2) (BW2.alloc hz2 _)
set_option maxRecDepth 100000 in
set_option maxHeartbeats 4000000 in
theorem impl_LoopSet_step (d n H I M : Nat) (hn : n = 4 ∨ n = 8) (hnH : n = H * 2) (hpH : 2 ^ (d + 1) = H) (hI : manyD d = I) (hM : M = 2 * H + 2 * I) (hI6 : I ≤ 6) (hlm : lManyI n = (M : Int)) (A : Option Addr) (c : Nat) (q : Nat → Nat) (w : World) (h : IsP n q) (hx : RdL iv w A n (permN n q)) (hc : n ≤ c)
    (hrec : ∀ (A : Option Addr) (c : Nat) (q : Nat → Nat) (w : World), IsP H q → RdL iv w A H (permN H q) → H ≤ c → Calls Try.prog 36 #[.slice A H c] w (RetOB bv 4 (loopL d q, true) w)) :
    Calls Try.prog 36 #[.slice A n c] w (RetOB bv 4 (loopL (d + 1) q, true) w) := by
  have HP := Lib.hid h
  have HN := Lib.hid hn
  have HNH := Lib.hid hnH
  have HLM := Lib.hid hlm
  have HREC := Lib.hid hrec
  have HPR := Lib.hid (low_proper hn h)
  have HE := Lib.hid (loopL_succ d q)
  rw [hpH, ← hnH] at HE
  have hLI : ∀ q', (loopL d q').length = I := fun q' => by rw [loopL_len, hI]
  have HLI := Lib.hid hLI
  have h' : IsP (H * 2) q := by rw [← hnH]; exact h
  obtain ⟨low, hlow⟩ : ∃ l, lowF n q = l := ⟨_, rfl⟩
  rw [hlow] at HE HPR
  have HLW := Lib.hid hlow
  have hpr : Proper (H * 2) q low := by rw [← hnH]; exact HPR.out
  have HUP := Lib.hid (up_isP h' hpr)
  have HLP := Lib.hid (lo_isP h' hpr)
  have SU := Lib.hid (up_all h' hpr)
  have SL := Lib.hid (lo_all h' hpr)
  have SF := Lib.hid (fst_all (H := H) (low := low))
  have SE := Lib.hid (lst_all (low := low) h')
  rw [← hnH] at SU SL SF SE
  have hH4 : H ≤ 4 := by omega
  have hH2 : 2 ≤ H := by omega
  have hn8 : n ≤ 8 := by omega
  have hn4 : 4 ≤ n := by omega
  have hM20 : M ≤ 20 := by omega
  have hHM : H ≤ M := by omega
  have HMI := Lib.hid hM
  have z0 : decide ((M : Int) < 0) = false := decide_eq_false (by omega)
  have z2 : ((n : Int) == 2) = false := by simp; omega
  have hq2 : (n : Int) / 2 = (H : Int) := by omega
  clear h hn hnH hlm hrec hLI h' hlow hpr hpH hI hM
  have hmkB := run_make_row' (P := Try.prog) 31 4 (.bool false) 1 Try.underlying31 info_bool rfl .i64 .i64 H (by omega) (by omega)
  have hmkI := run_make_row' (P := Try.prog) 25 3 (.int .i64 0) 8 Try.underlying25 info_int rfl .i64 .i64 H (by omega) (by omega)
  have hmkR := run_make_room (P := Try.prog) 31 4 (.bool false) 1 Try.underlying31 info_bool rfl .i64 .i64 H M hHM (by omega) (by omega)
  go_enter Try.func36, Try.ntmps36
  go_wp2_with fail
  refine (impl_LoopMany n _).mono ?_
  rintro e w1 ⟨rfl, m1, rfl⟩
  rw [HLM.out]
  go_wp2_with fail
  refine (impl_isOrder A n c _ _ (hx.drewN m1) (by omega)).mono ?_
  rintro e w2 hw2
  obtain ⟨rfl, B2⟩ := retm_yes hw2 (permN_ok HP.out)
  have BW2 := bstep (below_drewN (Below.refl w.heap.size w) m1) B2
  clear hw2 B2
  go_wp2_with fail
  refine (impl_lowerInputs A n c q _ HN.out HP.out (hx.below BW2 (Nat.le_refl _))).mono ?_
  rintro e w3 ⟨A3, n3, c3, rfl, O3, B3⟩
  rw [HLW.out] at O3
  obtain rfl : n = n3 := by rw [← O3.len.out, lowN_len]
  have BW3 := bstep BW2 B3
  have hz2 := BW2.size
  have hz3 := BW3.size
  obtain ⟨gl, yl, hA3, hgl0, hgl, HYl, gcl, gfl⟩ := O3.at (k := 0) (by omega)
  subst hA3
  clear HYl gcl gfl B3 BW2
  replace O3 : OwnL bv w3 w.heap.size 4 (some ⟨gl, 0, none⟩) n c3 (lowN n low) := ⟨O3.1, by
    rcases O3.2 with h0 | ⟨g, cap, cur, h1, h2, h3⟩
    · exact .inl h0
    · exact .inr ⟨g, cap, cur, h1, by omega, h3⟩⟩
  go_wp2_with fail
  refine (impl_LoopMany n _).mono ?_
  rintro e w4 ⟨rfl, m4, rfl⟩
  rw [HLM.out]
  obtain ⟨W0, HW0⟩ : ∃ W0 : World, w3.drewN m4 = W0 := ⟨_, rfl⟩
  have hW0s : W0.heap.size = w3.heap.size := by rw [← HW0]; simp
  have BW4 : Below w.heap.size w W0 := by rw [← HW0]; exact below_drewN BW3 m4
  have O4 : OwnL bv W0 w.heap.size 4 (some ⟨gl, 0, none⟩) n c3 (lowN n low) := by rw [← HW0]; exact O3.drewN m4
  rw [HW0]
  clear HW0 O3 BW3
  rw [← hW0s] at hgl hz3
  clear hW0s
  go_wp2
  clear hmkB hmkI hmkR
  have o1 : OwnL bv (W0.alloc (.cells (madeCells #[.bool false] M) 4)) w.heap.size 4 (some ⟨W0.heap.size, 0, none⟩) H M (List.replicate H false) := OwnL.room W0 false H M hHM (by unfold maxLen; omega) _ hz3
  have o2 : OwnL bv ((W0.alloc (.cells (madeCells #[.bool false] M) 4)).alloc (.cells (madeCells #[.bool false] H) 4)) w.heap.size 4 (some ⟨W0.heap.size + 1, 0, none⟩) H H (List.replicate H false) := by
    have := OwnL.made (emb := bv) (e := 4) (W0.alloc (.cells (madeCells #[.bool false] M) 4)) false H (by unfold maxLen; omega) w.heap.size (by simp; omega)
    simpa using this
  have o3 : OwnL iv (((W0.alloc (.cells (madeCells #[.bool false] M) 4)).alloc (.cells (madeCells #[.bool false] H) 4)).alloc (.cells (madeCells #[.int .i64 0] H) 3)) w.heap.size 3 (some ⟨W0.heap.size + 2, 0, none⟩) H H (List.replicate H 0) := by
    have := OwnL.made (emb := iv) (e := 3) ((W0.alloc (.cells (madeCells #[.bool false] M) 4)).alloc (.cells (madeCells #[.bool false] H) 4)) 0 H (by unfold maxLen; omega) w.heap.size (by simp; omega)
    simpa using this
  have o4 : OwnL iv ((((W0.alloc (.cells (madeCells #[.bool false] M) 4)).alloc (.cells (madeCells #[.bool false] H) 4)).alloc (.cells (madeCells #[.int .i64 0] H) 3)).alloc (.cells (madeCells #[.int .i64 0] H) 3)) w.heap.size 3 (some ⟨W0.heap.size + 3, 0, none⟩) H H (List.replicate H 0) := by
    have := OwnL.made (emb := iv) (e := 3) (((W0.alloc (.cells (madeCells #[.bool false] M) 4)).alloc (.cells (madeCells #[.bool false] H) 4)).alloc (.cells (madeCells #[.int .i64 0] H) 3)) 0 H (by unfold maxLen; omega) w.heap.size (by simp; omega)
    simpa using this
  have b4 : Below w.heap.size w ((((W0.alloc (.cells (madeCells #[.bool false] M) 4)).alloc (.cells (madeCells #[.bool false] H) 4)).alloc (.cells (madeCells #[.int .i64 0] H) 3)).alloc (.cells (madeCells #[.int .i64 0] H) 3)) := (((BW4.alloc hz3 _).alloc (by simp; omega) _).alloc (by simp; omega) _).alloc (by simp; omega) _
  go_loopg [49] n (fun g i wr => ∃ k : Nat, k ≤ n ∧ g = n - k ∧ i = .int .i64 k ∧ OwnL bv wr w.heap.size 4 (some ⟨W0.heap.size, 0, none⟩) H M (scat (List.replicate H false) (stFst low) k) ∧ OwnL bv wr w.heap.size 4 (some ⟨W0.heap.size + 1, 0, none⟩) H H (scat (List.replicate H false) (stLst low q) k) ∧ OwnL iv wr w.heap.size 3 (some ⟨W0.heap.size + 2, 0, none⟩) H H (scat (List.replicate H 0) (stUp low q) k) ∧ OwnL iv wr w.heap.size 3 (some ⟨W0.heap.size + 3, 0, none⟩) H H (scat (List.replicate H 0) (stLo low q) k) ∧ OwnL bv wr w.heap.size 4 (some ⟨gl, 0, none⟩) n c3 (lowN n low) ∧ Below w.heap.size w wr)
  case atStart => exact ⟨0, Nat.zero_le _, rfl, rfl, ((o1.alloc _).alloc _).alloc _, (o2.alloc _).alloc _, o3.alloc _, o4, (((O4.alloc _).alloc _).alloc _).alloc _, b4⟩
  case round =>
    clear o1 o2 o3 o4 b4 O4 BW4
    obtain ⟨k, hk, rfl, rfl, q1, q2, q3, q4, q5, hbel⟩ := hrel
    by_cases hlt : k < n
    · obtain ⟨b, off, x, rfl, HX, gx⟩ := (hx.below hbel (Nat.le_refl _)).at hlt
      have hbw : b < w.heap.size := by
        obtain ⟨b', off', x', hA, -, gx'⟩ := hx.at hlt
        injection hA with hA; injection hA with hA1 hA2; subst hA1 hA2
        exact World.block_lt_of_cell? _ _ gx'
      have hx' : x = (q k : Int) := by have h := HX.out; rw [permN_at hlt] at h; injection h with h; exact h.symm
      clear HX
      obtain ⟨V, HV⟩ : ∃ V, Hid (q k = V) := ⟨_, rfl⟩
      rw [HV.out] at hx'
      subst hx'
      have hV : V < n := by rw [← HV.out]; exact HP.out.1 k hlt
      obtain ⟨j, HJ⟩ : ∃ j, Hid (k / 2 = j) := ⟨_, rfl⟩
      obtain ⟨W, HW⟩ : ∃ W, Hid (V / 2 = W) := ⟨_, rfl⟩
      have hjk : (k : Int) / 2 = (j : Int) := by have := HJ.out; omega
      have hWV : (V : Int) / 2 = (W : Int) := by have := HW.out; omega
      have hjH : j < H := by have := HJ.out; have := HNH.out; omega
      have hWH : W < H := by have := HW.out; have := HNH.out; omega
      obtain ⟨g0, y, hA, -, -, HY, gc, -⟩ := q5.at hlt
      injection hA with hA; injection hA with hA; subst hA
      have HLK : Hid (low k = y) := by have h := HY.out; rw [lowN_at hlt] at h; injection h
      clear HY
      obtain ⟨g1, y1, hA, -, -, -, r1, s1⟩ := q1.at hjH
      injection hA with hA; injection hA with hA; subst hA
      obtain ⟨g2, y2, hA, -, -, -, r2, s2⟩ := q2.at hWH
      injection hA with hA; injection hA with hA; subst hA
      obtain ⟨g3, y3, hA, -, -, -, r3, s3⟩ := q3.at hjH
      injection hA with hA; injection hA with hA; subst hA
      obtain ⟨g4, y4, hA, -, -, -, r4, s4⟩ := q4.at hjH
      injection hA with hA; injection hA with hA; subst hA
      obtain ⟨wo, hwo⟩ : ∃ wo : World, wo = wr := ⟨_, rfl⟩
      subst hwo
      cases y with
      | true =>
        rcases (by omega : k % 2 = 0 ∨ k % 2 = 1) with hk2 | hk2
        · have HK : Hid (k % 2 = 0) := Lib.hid (by omega)
          have hki : (k : Int) % 2 = 0 := by omega
          clear hk2
          rcases (by omega : V % 2 = 0 ∨ V % 2 = 1) with hv2 | hv2
          · have HVE : Hid (V % 2 = 0) := Lib.hid (by omega)
            have hvi : (V : Int) % 2 = 0 := by omega
            clear hv2
            have e1 : (wo.setCell ⟨W0.heap.size + 3, j, none⟩ (.int .i64 W)).cell? ⟨gl, k, none⟩ = some (bv true) := by rw [World.cell?_setCell_other _ _ _ _ (fun e => by injection e with e; omega)]; exact gc
            have e2 : ((wo.setCell ⟨W0.heap.size + 3, j, none⟩ (.int .i64 W)).setCell ⟨W0.heap.size, j, none⟩ (.bool true)).cell? ⟨gl, k, none⟩ = some (bv true) := by rw [World.cell?_setCell_other _ _ _ _ (fun e => by injection e with e; omega), World.cell?_setCell_other _ _ _ _ (fun e => by injection e with e; omega)]; exact gc
            have F3 := Lib.hid (scat_none (d := List.replicate H 0) (st_up_no (q := q) HLK.out))
            have F4 := Lib.hid (scat_some (d := List.replicate H 0) (st_lo (q := q) (W := W) HLK.out HJ.out (by rw [HV.out]; exact HW.out)))
            have F1 := Lib.hid (scat_some (d := List.replicate H false) (st_fst (low := low) HK.out HJ.out HLK.out))
            have F2 := Lib.hid (scat_some (d := List.replicate H false) (st_lst (low := low) (q := q) (W := W) (by rw [HV.out]; exact HVE.out) (by rw [HV.out]; exact HW.out) HLK.out))
            have Q1 := (OwnL.far (OwnL.set (OwnL.far q1 ⟨W0.heap.size + 3, j, none⟩ (.int .i64 W) (ne_blk (a := W0.heap.size) (b := W0.heap.size + 3) (by omega))) j true) ⟨W0.heap.size + 1, W, none⟩ (.bool true) (ne_blk (a := W0.heap.size) (b := W0.heap.size + 1) (by omega)))
            have Q2 := (OwnL.set (OwnL.far (OwnL.far q2 ⟨W0.heap.size + 3, j, none⟩ (.int .i64 W) (ne_blk (a := W0.heap.size + 1) (b := W0.heap.size + 3) (by omega))) ⟨W0.heap.size, j, none⟩ (.bool true) (ne_blk (a := W0.heap.size + 1) (b := W0.heap.size) (by omega))) W true)
            have Q3 := (OwnL.far (OwnL.far (OwnL.far q3 ⟨W0.heap.size + 3, j, none⟩ (.int .i64 W) (ne_blk (a := W0.heap.size + 2) (b := W0.heap.size + 3) (by omega))) ⟨W0.heap.size, j, none⟩ (.bool true) (ne_blk (a := W0.heap.size + 2) (b := W0.heap.size) (by omega))) ⟨W0.heap.size + 1, W, none⟩ (.bool true) (ne_blk (a := W0.heap.size + 2) (b := W0.heap.size + 1) (by omega)))
            have Q4 := (OwnL.far (OwnL.far (OwnL.set q4 j (W : Int)) ⟨W0.heap.size, j, none⟩ (.bool true) (ne_blk (a := W0.heap.size + 3) (b := W0.heap.size) (by omega))) ⟨W0.heap.size + 1, W, none⟩ (.bool true) (ne_blk (a := W0.heap.size + 3) (b := W0.heap.size + 1) (by omega)))
            have Q5 := (OwnL.far (OwnL.far (OwnL.far q5 ⟨W0.heap.size + 3, j, none⟩ (.int .i64 W) (ne_blk (a := gl) (b := W0.heap.size + 3) (by omega))) ⟨W0.heap.size, j, none⟩ (.bool true) (ne_blk (a := gl) (b := W0.heap.size) (by omega))) ⟨W0.heap.size + 1, W, none⟩ (.bool true) (ne_blk (a := gl) (b := W0.heap.size + 1) (by omega)))
            have QB := (Below.setCell (Below.setCell (Below.setCell hbel (p := ⟨W0.heap.size + 3, j, none⟩) (by show w.heap.size ≤ W0.heap.size + 3; omega) (.int .i64 W)) (p := ⟨W0.heap.size, j, none⟩) (by show w.heap.size ≤ W0.heap.size; omega) (.bool true)) (p := ⟨W0.heap.size + 1, W, none⟩) (by show w.heap.size ≤ W0.heap.size + 1; omega) (.bool true))
            rw [← F1.out] at Q1
            rw [← F2.out] at Q2
            rw [← F3.out] at Q3
            rw [← F4.out] at Q4
            clear F1 F2 F3 F4 q1 q2 q3 q4 q5 hbel
            go_wp2
            go_roundg (n - (k + 1))
            case rel => exact ⟨k + 1, by omega, rfl, by go_num, Q1, Q2, Q3, Q4, Q5, QB⟩
            case measure => omega
          · have HVE : Hid (¬ V % 2 = 0) := Lib.hid (by omega)
            have hvi : (V : Int) % 2 = 1 := by omega
            clear hv2
            have e1 : (wo.setCell ⟨W0.heap.size + 3, j, none⟩ (.int .i64 W)).cell? ⟨gl, k, none⟩ = some (bv true) := by rw [World.cell?_setCell_other _ _ _ _ (fun e => by injection e with e; omega)]; exact gc
            have F3 := Lib.hid (scat_none (d := List.replicate H 0) (st_up_no (q := q) HLK.out))
            have F4 := Lib.hid (scat_some (d := List.replicate H 0) (st_lo (q := q) (W := W) HLK.out HJ.out (by rw [HV.out]; exact HW.out)))
            have F1 := Lib.hid (scat_some (d := List.replicate H false) (st_fst (low := low) HK.out HJ.out HLK.out))
            have F2 := Lib.hid (scat_none (d := List.replicate H false) (st_lst_no (low := low) (q := q) (k := k) (by rw [HV.out]; exact HVE.out)))
            have Q1 := (OwnL.set (OwnL.far q1 ⟨W0.heap.size + 3, j, none⟩ (.int .i64 W) (ne_blk (a := W0.heap.size) (b := W0.heap.size + 3) (by omega))) j true)
            have Q2 := (OwnL.far (OwnL.far q2 ⟨W0.heap.size + 3, j, none⟩ (.int .i64 W) (ne_blk (a := W0.heap.size + 1) (b := W0.heap.size + 3) (by omega))) ⟨W0.heap.size, j, none⟩ (.bool true) (ne_blk (a := W0.heap.size + 1) (b := W0.heap.size) (by omega)))
            have Q3 := (OwnL.far (OwnL.far q3 ⟨W0.heap.size + 3, j, none⟩ (.int .i64 W) (ne_blk (a := W0.heap.size + 2) (b := W0.heap.size + 3) (by omega))) ⟨W0.heap.size, j, none⟩ (.bool true) (ne_blk (a := W0.heap.size + 2) (b := W0.heap.size) (by omega)))
            have Q4 := (OwnL.far (OwnL.set q4 j (W : Int)) ⟨W0.heap.size, j, none⟩ (.bool true) (ne_blk (a := W0.heap.size + 3) (b := W0.heap.size) (by omega)))
            have Q5 := (OwnL.far (OwnL.far q5 ⟨W0.heap.size + 3, j, none⟩ (.int .i64 W) (ne_blk (a := gl) (b := W0.heap.size + 3) (by omega))) ⟨W0.heap.size, j, none⟩ (.bool true) (ne_blk (a := gl) (b := W0.heap.size) (by omega)))
            have QB := (Below.setCell (Below.setCell hbel (p := ⟨W0.heap.size + 3, j, none⟩) (by show w.heap.size ≤ W0.heap.size + 3; omega) (.int .i64 W)) (p := ⟨W0.heap.size, j, none⟩) (by show w.heap.size ≤ W0.heap.size; omega) (.bool true))
            rw [← F1.out] at Q1
            rw [← F2.out] at Q2
            rw [← F3.out] at Q3
            rw [← F4.out] at Q4
            clear F1 F2 F3 F4 q1 q2 q3 q4 q5 hbel
            go_wp2
            go_roundg (n - (k + 1))
            case rel => exact ⟨k + 1, by omega, rfl, by go_num, Q1, Q2, Q3, Q4, Q5, QB⟩
            case measure => omega
        · have HK : Hid (¬ k % 2 = 0) := Lib.hid (by omega)
          have hki : (k : Int) % 2 = 1 := by omega
          clear hk2
          rcases (by omega : V % 2 = 0 ∨ V % 2 = 1) with hv2 | hv2
          · have HVE : Hid (V % 2 = 0) := Lib.hid (by omega)
            have hvi : (V : Int) % 2 = 0 := by omega
            clear hv2
            have e1 : (wo.setCell ⟨W0.heap.size + 3, j, none⟩ (.int .i64 W)).cell? ⟨gl, k, none⟩ = some (bv true) := by rw [World.cell?_setCell_other _ _ _ _ (fun e => by injection e with e; omega)]; exact gc
            have F3 := Lib.hid (scat_none (d := List.replicate H 0) (st_up_no (q := q) HLK.out))
            have F4 := Lib.hid (scat_some (d := List.replicate H 0) (st_lo (q := q) (W := W) HLK.out HJ.out (by rw [HV.out]; exact HW.out)))
            have F1 := Lib.hid (scat_none (d := List.replicate H false) (st_fst_no (low := low) HK.out))
            have F2 := Lib.hid (scat_some (d := List.replicate H false) (st_lst (low := low) (q := q) (W := W) (by rw [HV.out]; exact HVE.out) (by rw [HV.out]; exact HW.out) HLK.out))
            have Q1 := (OwnL.far (OwnL.far q1 ⟨W0.heap.size + 3, j, none⟩ (.int .i64 W) (ne_blk (a := W0.heap.size) (b := W0.heap.size + 3) (by omega))) ⟨W0.heap.size + 1, W, none⟩ (.bool true) (ne_blk (a := W0.heap.size) (b := W0.heap.size + 1) (by omega)))
            have Q2 := (OwnL.set (OwnL.far q2 ⟨W0.heap.size + 3, j, none⟩ (.int .i64 W) (ne_blk (a := W0.heap.size + 1) (b := W0.heap.size + 3) (by omega))) W true)
            have Q3 := (OwnL.far (OwnL.far q3 ⟨W0.heap.size + 3, j, none⟩ (.int .i64 W) (ne_blk (a := W0.heap.size + 2) (b := W0.heap.size + 3) (by omega))) ⟨W0.heap.size + 1, W, none⟩ (.bool true) (ne_blk (a := W0.heap.size + 2) (b := W0.heap.size + 1) (by omega)))
            have Q4 := (OwnL.far (OwnL.set q4 j (W : Int)) ⟨W0.heap.size + 1, W, none⟩ (.bool true) (ne_blk (a := W0.heap.size + 3) (b := W0.heap.size + 1) (by omega)))
            have Q5 := (OwnL.far (OwnL.far q5 ⟨W0.heap.size + 3, j, none⟩ (.int .i64 W) (ne_blk (a := gl) (b := W0.heap.size + 3) (by omega))) ⟨W0.heap.size + 1, W, none⟩ (.bool true) (ne_blk (a := gl) (b := W0.heap.size + 1) (by omega)))
            have QB := (Below.setCell (Below.setCell hbel (p := ⟨W0.heap.size + 3, j, none⟩) (by show w.heap.size ≤ W0.heap.size + 3; omega) (.int .i64 W)) (p := ⟨W0.heap.size + 1, W, none⟩) (by show w.heap.size ≤ W0.heap.size + 1; omega) (.bool true))
            rw [← F1.out] at Q1
            rw [← F2.out] at Q2
            rw [← F3.out] at Q3
            rw [← F4.out] at Q4
            clear F1 F2 F3 F4 q1 q2 q3 q4 q5 hbel
            go_wp2
            go_roundg (n - (k + 1))
            case rel => exact ⟨k + 1, by omega, rfl, by go_num, Q1, Q2, Q3, Q4, Q5, QB⟩
            case measure => omega
          · have HVE : Hid (¬ V % 2 = 0) := Lib.hid (by omega)
            have hvi : (V : Int) % 2 = 1 := by omega
            clear hv2
            have F3 := Lib.hid (scat_none (d := List.replicate H 0) (st_up_no (q := q) HLK.out))
            have F4 := Lib.hid (scat_some (d := List.replicate H 0) (st_lo (q := q) (W := W) HLK.out HJ.out (by rw [HV.out]; exact HW.out)))
            have F1 := Lib.hid (scat_none (d := List.replicate H false) (st_fst_no (low := low) HK.out))
            have F2 := Lib.hid (scat_none (d := List.replicate H false) (st_lst_no (low := low) (q := q) (k := k) (by rw [HV.out]; exact HVE.out)))
            have Q1 := (OwnL.far q1 ⟨W0.heap.size + 3, j, none⟩ (.int .i64 W) (ne_blk (a := W0.heap.size) (b := W0.heap.size + 3) (by omega)))
            have Q2 := (OwnL.far q2 ⟨W0.heap.size + 3, j, none⟩ (.int .i64 W) (ne_blk (a := W0.heap.size + 1) (b := W0.heap.size + 3) (by omega)))
            have Q3 := (OwnL.far q3 ⟨W0.heap.size + 3, j, none⟩ (.int .i64 W) (ne_blk (a := W0.heap.size + 2) (b := W0.heap.size + 3) (by omega)))
            have Q4 := (OwnL.set q4 j (W : Int))
            have Q5 := (OwnL.far q5 ⟨W0.heap.size + 3, j, none⟩ (.int .i64 W) (ne_blk (a := gl) (b := W0.heap.size + 3) (by omega)))
            have QB := (Below.setCell hbel (p := ⟨W0.heap.size + 3, j, none⟩) (by show w.heap.size ≤ W0.heap.size + 3; omega) (.int .i64 W))
            rw [← F1.out] at Q1
            rw [← F2.out] at Q2
            rw [← F3.out] at Q3
            rw [← F4.out] at Q4
            clear F1 F2 F3 F4 q1 q2 q3 q4 q5 hbel
            go_wp2
            go_roundg (n - (k + 1))
            case rel => exact ⟨k + 1, by omega, rfl, by go_num, Q1, Q2, Q3, Q4, Q5, QB⟩
            case measure => omega
      | false =>
        rcases (by omega : k % 2 = 0 ∨ k % 2 = 1) with hk2 | hk2
        · have HK : Hid (k % 2 = 0) := Lib.hid (by omega)
          have hki : (k : Int) % 2 = 0 := by omega
          clear hk2
          rcases (by omega : V % 2 = 0 ∨ V % 2 = 1) with hv2 | hv2
          · have HVE : Hid (V % 2 = 0) := Lib.hid (by omega)
            have hvi : (V : Int) % 2 = 0 := by omega
            clear hv2
            have e1 : (wo.setCell ⟨W0.heap.size + 2, j, none⟩ (.int .i64 W)).cell? ⟨gl, k, none⟩ = some (bv false) := by rw [World.cell?_setCell_other _ _ _ _ (fun e => by injection e with e; omega)]; exact gc
            have e2 : ((wo.setCell ⟨W0.heap.size + 2, j, none⟩ (.int .i64 W)).setCell ⟨W0.heap.size, j, none⟩ (.bool false)).cell? ⟨gl, k, none⟩ = some (bv false) := by rw [World.cell?_setCell_other _ _ _ _ (fun e => by injection e with e; omega), World.cell?_setCell_other _ _ _ _ (fun e => by injection e with e; omega)]; exact gc
            have F4 := Lib.hid (scat_none (d := List.replicate H 0) (st_lo_no (q := q) HLK.out))
            have F3 := Lib.hid (scat_some (d := List.replicate H 0) (st_up (q := q) (W := W) HLK.out HJ.out (by rw [HV.out]; exact HW.out)))
            have F1 := Lib.hid (scat_some (d := List.replicate H false) (st_fst (low := low) HK.out HJ.out HLK.out))
            have F2 := Lib.hid (scat_some (d := List.replicate H false) (st_lst (low := low) (q := q) (W := W) (by rw [HV.out]; exact HVE.out) (by rw [HV.out]; exact HW.out) HLK.out))
            have Q1 := (OwnL.far (OwnL.set (OwnL.far q1 ⟨W0.heap.size + 2, j, none⟩ (.int .i64 W) (ne_blk (a := W0.heap.size) (b := W0.heap.size + 2) (by omega))) j false) ⟨W0.heap.size + 1, W, none⟩ (.bool false) (ne_blk (a := W0.heap.size) (b := W0.heap.size + 1) (by omega)))
            have Q2 := (OwnL.set (OwnL.far (OwnL.far q2 ⟨W0.heap.size + 2, j, none⟩ (.int .i64 W) (ne_blk (a := W0.heap.size + 1) (b := W0.heap.size + 2) (by omega))) ⟨W0.heap.size, j, none⟩ (.bool false) (ne_blk (a := W0.heap.size + 1) (b := W0.heap.size) (by omega))) W false)
            have Q3 := (OwnL.far (OwnL.far (OwnL.set q3 j (W : Int)) ⟨W0.heap.size, j, none⟩ (.bool false) (ne_blk (a := W0.heap.size + 2) (b := W0.heap.size) (by omega))) ⟨W0.heap.size + 1, W, none⟩ (.bool false) (ne_blk (a := W0.heap.size + 2) (b := W0.heap.size + 1) (by omega)))
            have Q4 := (OwnL.far (OwnL.far (OwnL.far q4 ⟨W0.heap.size + 2, j, none⟩ (.int .i64 W) (ne_blk (a := W0.heap.size + 3) (b := W0.heap.size + 2) (by omega))) ⟨W0.heap.size, j, none⟩ (.bool false) (ne_blk (a := W0.heap.size + 3) (b := W0.heap.size) (by omega))) ⟨W0.heap.size + 1, W, none⟩ (.bool false) (ne_blk (a := W0.heap.size + 3) (b := W0.heap.size + 1) (by omega)))
            have Q5 := (OwnL.far (OwnL.far (OwnL.far q5 ⟨W0.heap.size + 2, j, none⟩ (.int .i64 W) (ne_blk (a := gl) (b := W0.heap.size + 2) (by omega))) ⟨W0.heap.size, j, none⟩ (.bool false) (ne_blk (a := gl) (b := W0.heap.size) (by omega))) ⟨W0.heap.size + 1, W, none⟩ (.bool false) (ne_blk (a := gl) (b := W0.heap.size + 1) (by omega)))
            have QB := (Below.setCell (Below.setCell (Below.setCell hbel (p := ⟨W0.heap.size + 2, j, none⟩) (by show w.heap.size ≤ W0.heap.size + 2; omega) (.int .i64 W)) (p := ⟨W0.heap.size, j, none⟩) (by show w.heap.size ≤ W0.heap.size; omega) (.bool false)) (p := ⟨W0.heap.size + 1, W, none⟩) (by show w.heap.size ≤ W0.heap.size + 1; omega) (.bool false))
            rw [← F1.out] at Q1
            rw [← F2.out] at Q2
            rw [← F3.out] at Q3
            rw [← F4.out] at Q4
            clear F1 F2 F3 F4 q1 q2 q3 q4 q5 hbel
            go_wp2
            go_roundg (n - (k + 1))
            case rel => exact ⟨k + 1, by omega, rfl, by go_num, Q1, Q2, Q3, Q4, Q5, QB⟩
            case measure => omega
          · have HVE : Hid (¬ V % 2 = 0) := Lib.hid (by omega)
            have hvi : (V : Int) % 2 = 1 := by omega
            clear hv2
            have e1 : (wo.setCell ⟨W0.heap.size + 2, j, none⟩ (.int .i64 W)).cell? ⟨gl, k, none⟩ = some (bv false) := by rw [World.cell?_setCell_other _ _ _ _ (fun e => by injection e with e; omega)]; exact gc
            have F4 := Lib.hid (scat_none (d := List.replicate H 0) (st_lo_no (q := q) HLK.out))
            have F3 := Lib.hid (scat_some (d := List.replicate H 0) (st_up (q := q) (W := W) HLK.out HJ.out (by rw [HV.out]; exact HW.out)))
            have F1 := Lib.hid (scat_some (d := List.replicate H false) (st_fst (low := low) HK.out HJ.out HLK.out))
            have F2 := Lib.hid (scat_none (d := List.replicate H false) (st_lst_no (low := low) (q := q) (k := k) (by rw [HV.out]; exact HVE.out)))
            have Q1 := (OwnL.set (OwnL.far q1 ⟨W0.heap.size + 2, j, none⟩ (.int .i64 W) (ne_blk (a := W0.heap.size) (b := W0.heap.size + 2) (by omega))) j false)
            have Q2 := (OwnL.far (OwnL.far q2 ⟨W0.heap.size + 2, j, none⟩ (.int .i64 W) (ne_blk (a := W0.heap.size + 1) (b := W0.heap.size + 2) (by omega))) ⟨W0.heap.size, j, none⟩ (.bool false) (ne_blk (a := W0.heap.size + 1) (b := W0.heap.size) (by omega)))
            have Q3 := (OwnL.far (OwnL.set q3 j (W : Int)) ⟨W0.heap.size, j, none⟩ (.bool false) (ne_blk (a := W0.heap.size + 2) (b := W0.heap.size) (by omega)))
            have Q4 := (OwnL.far (OwnL.far q4 ⟨W0.heap.size + 2, j, none⟩ (.int .i64 W) (ne_blk (a := W0.heap.size + 3) (b := W0.heap.size + 2) (by omega))) ⟨W0.heap.size, j, none⟩ (.bool false) (ne_blk (a := W0.heap.size + 3) (b := W0.heap.size) (by omega)))
            have Q5 := (OwnL.far (OwnL.far q5 ⟨W0.heap.size + 2, j, none⟩ (.int .i64 W) (ne_blk (a := gl) (b := W0.heap.size + 2) (by omega))) ⟨W0.heap.size, j, none⟩ (.bool false) (ne_blk (a := gl) (b := W0.heap.size) (by omega)))
            have QB := (Below.setCell (Below.setCell hbel (p := ⟨W0.heap.size + 2, j, none⟩) (by show w.heap.size ≤ W0.heap.size + 2; omega) (.int .i64 W)) (p := ⟨W0.heap.size, j, none⟩) (by show w.heap.size ≤ W0.heap.size; omega) (.bool false))
            rw [← F1.out] at Q1
            rw [← F2.out] at Q2
            rw [← F3.out] at Q3
            rw [← F4.out] at Q4
            clear F1 F2 F3 F4 q1 q2 q3 q4 q5 hbel
            go_wp2
            go_roundg (n - (k + 1))
            case rel => exact ⟨k + 1, by omega, rfl, by go_num, Q1, Q2, Q3, Q4, Q5, QB⟩
            case measure => omega
        · have HK : Hid (¬ k % 2 = 0) := Lib.hid (by omega)
          have hki : (k : Int) % 2 = 1 := by omega
          clear hk2
          rcases (by omega : V % 2 = 0 ∨ V % 2 = 1) with hv2 | hv2
          · have HVE : Hid (V % 2 = 0) := Lib.hid (by omega)
            have hvi : (V : Int) % 2 = 0 := by omega
            clear hv2
            have e1 : (wo.setCell ⟨W0.heap.size + 2, j, none⟩ (.int .i64 W)).cell? ⟨gl, k, none⟩ = some (bv false) := by rw [World.cell?_setCell_other _ _ _ _ (fun e => by injection e with e; omega)]; exact gc
            have F4 := Lib.hid (scat_none (d := List.replicate H 0) (st_lo_no (q := q) HLK.out))
            have F3 := Lib.hid (scat_some (d := List.replicate H 0) (st_up (q := q) (W := W) HLK.out HJ.out (by rw [HV.out]; exact HW.out)))
            have F1 := Lib.hid (scat_none (d := List.replicate H false) (st_fst_no (low := low) HK.out))
            have F2 := Lib.hid (scat_some (d := List.replicate H false) (st_lst (low := low) (q := q) (W := W) (by rw [HV.out]; exact HVE.out) (by rw [HV.out]; exact HW.out) HLK.out))
            have Q1 := (OwnL.far (OwnL.far q1 ⟨W0.heap.size + 2, j, none⟩ (.int .i64 W) (ne_blk (a := W0.heap.size) (b := W0.heap.size + 2) (by omega))) ⟨W0.heap.size + 1, W, none⟩ (.bool false) (ne_blk (a := W0.heap.size) (b := W0.heap.size + 1) (by omega)))
            have Q2 := (OwnL.set (OwnL.far q2 ⟨W0.heap.size + 2, j, none⟩ (.int .i64 W) (ne_blk (a := W0.heap.size + 1) (b := W0.heap.size + 2) (by omega))) W false)
            have Q3 := (OwnL.far (OwnL.set q3 j (W : Int)) ⟨W0.heap.size + 1, W, none⟩ (.bool false) (ne_blk (a := W0.heap.size + 2) (b := W0.heap.size + 1) (by omega)))
            have Q4 := (OwnL.far (OwnL.far q4 ⟨W0.heap.size + 2, j, none⟩ (.int .i64 W) (ne_blk (a := W0.heap.size + 3) (b := W0.heap.size + 2) (by omega))) ⟨W0.heap.size + 1, W, none⟩ (.bool false) (ne_blk (a := W0.heap.size + 3) (b := W0.heap.size + 1) (by omega)))
            have Q5 := (OwnL.far (OwnL.far q5 ⟨W0.heap.size + 2, j, none⟩ (.int .i64 W) (ne_blk (a := gl) (b := W0.heap.size + 2) (by omega))) ⟨W0.heap.size + 1, W, none⟩ (.bool false) (ne_blk (a := gl) (b := W0.heap.size + 1) (by omega)))
            have QB := (Below.setCell (Below.setCell hbel (p := ⟨W0.heap.size + 2, j, none⟩) (by show w.heap.size ≤ W0.heap.size + 2; omega) (.int .i64 W)) (p := ⟨W0.heap.size + 1, W, none⟩) (by show w.heap.size ≤ W0.heap.size + 1; omega) (.bool false))
            rw [← F1.out] at Q1
            rw [← F2.out] at Q2
            rw [← F3.out] at Q3
            rw [← F4.out] at Q4
            clear F1 F2 F3 F4 q1 q2 q3 q4 q5 hbel
            go_wp2
            go_roundg (n - (k + 1))
            case rel => exact ⟨k + 1, by omega, rfl, by go_num, Q1, Q2, Q3, Q4, Q5, QB⟩
            case measure => omega
          · have HVE : Hid (¬ V % 2 = 0) := Lib.hid (by omega)
            have hvi : (V : Int) % 2 = 1 := by omega
            clear hv2
            have F4 := Lib.hid (scat_none (d := List.replicate H 0) (st_lo_no (q := q) HLK.out))
            have F3 := Lib.hid (scat_some (d := List.replicate H 0) (st_up (q := q) (W := W) HLK.out HJ.out (by rw [HV.out]; exact HW.out)))
            have F1 := Lib.hid (scat_none (d := List.replicate H false) (st_fst_no (low := low) HK.out))
            have F2 := Lib.hid (scat_none (d := List.replicate H false) (st_lst_no (low := low) (q := q) (k := k) (by rw [HV.out]; exact HVE.out)))
            have Q1 := (OwnL.far q1 ⟨W0.heap.size + 2, j, none⟩ (.int .i64 W) (ne_blk (a := W0.heap.size) (b := W0.heap.size + 2) (by omega)))
            have Q2 := (OwnL.far q2 ⟨W0.heap.size + 2, j, none⟩ (.int .i64 W) (ne_blk (a := W0.heap.size + 1) (b := W0.heap.size + 2) (by omega)))
            have Q3 := (OwnL.set q3 j (W : Int))
            have Q4 := (OwnL.far q4 ⟨W0.heap.size + 2, j, none⟩ (.int .i64 W) (ne_blk (a := W0.heap.size + 3) (b := W0.heap.size + 2) (by omega)))
            have Q5 := (OwnL.far q5 ⟨W0.heap.size + 2, j, none⟩ (.int .i64 W) (ne_blk (a := gl) (b := W0.heap.size + 2) (by omega)))
            have QB := (Below.setCell hbel (p := ⟨W0.heap.size + 2, j, none⟩) (by show w.heap.size ≤ W0.heap.size + 2; omega) (.int .i64 W))
            rw [← F1.out] at Q1
            rw [← F2.out] at Q2
            rw [← F3.out] at Q3
            rw [← F4.out] at Q4
            clear F1 F2 F3 F4 q1 q2 q3 q4 q5 hbel
            go_wp2
            go_roundg (n - (k + 1))
            case rel => exact ⟨k + 1, by omega, rfl, by go_num, Q1, Q2, Q3, Q4, Q5, QB⟩
            case measure => omega
    · obtain rfl : k = n := by omega
      rw [SF.out] at q1
      rw [SE.out] at q2
      rw [SU.out] at q3
      rw [SL.out] at q4
      clear q5
      obtain ⟨wo, hwo⟩ : ∃ wo : World, wo = wr := ⟨_, rfl⟩
      subst hwo
      have hlo := (q4.lt (g := W0.heap.size + 3) rfl).2
      go_wp2_with fail
      refine (HREC.out _ H (upP low q) _ HUP.out q3.rd (Nat.le_refl _)).mono ?_
      rintro e w5 ⟨A5, n5, c5, ys5, t5, rfl, HE5, O5, B5⟩
      have he5 := HE5.out
      injection he5 with he5 ht5
      subst he5 ht5
      clear HE5
      obtain rfl : n5 = I := by rw [← O5.len.out, HLI.out]
      have q1' := q1.below B5 (Nat.le_refl _)
      have q2' := q2.below B5 (Nat.le_refl _)
      have q4' := q4.below B5 (Nat.le_refl _)
      have BW5 := bstep hbel B5
      have hz5 := B5.size
      have hz5' := BW5.size
      clear q1 q2 q3 q4 hbel
      go_wp2_with (at_builtin; refine wpList_appLN (emb := bv) _ rfl (.tmp 98) (.tmp 99) _ rfl w.heap.size 4 (.bool false) 1 Try.underlying31 info_bool rfl (some ⟨W0.heap.size, 0, none⟩) H M (fstL H low) rfl q1' A5 n5 c5 (loopL d (upP low q)) rfl O5.rd (fun _ => rfl) (H + n5) rfl _ rfl (by unfold maxLen; omega) (by omega) hz5' ?_; intro A6 c6 w6 O6 G6 L6)
      have B6 : Below w.heap.size w w6 := bgrown BW5 G6 hz5' (fun g hg => (q1'.lt hg).1)
      have q2'' := q2'.grown G6 (fun g hg => by rw [blk_some] at hg; injection hg with hg; subst hg; exact ne_blk (by omega))
      have q4'' := q4'.grown G6 (fun g hg => by rw [blk_some] at hg; injection hg with hg; subst hg; exact ne_blk (by omega))
      have hz6 := G6.size
      clear O5
      refine (HREC.out _ H (loP low q) _ HLP.out q4''.rd (Nat.le_refl _)).mono ?_
      rintro e w7 ⟨A7, n7, c7, ys7, t7, rfl, HE7, O7, B7⟩
      have he7 := HE7.out
      injection he7 with he7 ht7
      subst he7 ht7
      clear HE7
      obtain rfl : n5 = n7 := by rw [← O7.len.out, HLI.out]
      have O6' := O6.below B7 (Nat.le_refl _)
      have q2a := q2''.below B7 (Nat.le_refl _)
      have BW7 := bstep B6 B7
      have hz7 := B7.size
      have hz7' := BW7.size
      go_wp2_with (first
        | (at_builtin; refine wpList_appLN (emb := bv) _ rfl (.tmp 106) (.tmp 107) _ rfl w.heap.size 4 (.bool false) 1 Try.underlying31 info_bool rfl A6 (H + n5) c6 (fstL H low ++ loopL d (upP low q)) rfl O6' A7 n5 c7 (loopL d (loP low q)) rfl O7.rd (fun _ => rfl) (H + n5 + n5) rfl _ rfl (by unfold maxLen; omega) (by omega) hz7' ?_; intro A8 c8 w8 O8 G8 L8; have q2b := q2a.grown G8 (fun g hg => by
            rcases L6 with h6 | h6
            · rw [h6, blk_some] at hg; injection hg with hg; subst hg; exact ne_blk (by omega)
            · rw [h6] at hg; injection hg with hg; subst hg; exact ne_blk (by omega)); have B8 : Below w.heap.size w w8 := bgrown BW7 G8 hz7' (fun g hg => (O6'.lt hg).1); have hz8 := B8.size)
        | (at_builtin; refine wpList_appLN (emb := bv) _ rfl (.tmp 109) (.tmp 110) _ rfl w.heap.size 4 (.bool false) 1 Try.underlying31 info_bool rfl A8 (H + n5 + n5) c8 _ rfl O8 (some ⟨W0.heap.size + 1, 0, none⟩) H H (lstL H low q) rfl q2b.rd (fun _ => rfl) (H + n5 + n5 + H) rfl _ rfl (by unfold maxLen; omega) (by omega) hz8 ?_; intro A9 c9 w9 O9 G9 L9)
        | fail)
      go_ret2
      exact RetOB.mk _ (by rw [HE.out]) O9 (bgrown B8 G9 hz8 (fun g hg => (O8.lt hg).1))
theorem impl_LoopSet1 (A : Option Addr) (c : Nat) (q : Nat → Nat) (w : World) (h : IsP 4 q) (hx : RdL iv w A 4 (permN 4 q)) (hc : 4 ≤ c) :
    Calls Try.prog 36 #[.slice A 4 c] w (RetOB bv 4 (loopL 1 q, true) w) :=
  impl_LoopSet_step 0 4 2 1 6 (.inl rfl) rfl rfl rfl rfl (by omega) rfl A c q w h hx hc impl_LoopSet0
theorem impl_LoopSet2 (A : Option Addr) (c : Nat) (q : Nat → Nat) (w : World) (h : IsP 8 q) (hx : RdL iv w A 8 (permN 8 q)) (hc : 8 ≤ c) :
    Calls Try.prog 36 #[.slice A 8 c] w (RetOB bv 4 (loopL 2 q, true) w) :=
  impl_LoopSet_step 1 8 4 6 20 (.inr rfl) rfl rfl rfl rfl (by omega) rfl A c q w h hx hc impl_LoopSet1
end Go.Proofs.Ytiahpaakkijejaa
