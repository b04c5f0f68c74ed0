/- l3Run and LoopRun of the reference. Condition: at most 1048576 settings. -/
import Derived.Test.Ytiahpaakkijejaa3g
import Derived.Test.YtiahpaakkijejaaTab
namespace Go.Proofs.Ytiahpaakkijejaa
open Go.RowKit
set_option linter.unusedSimpArgs false
set_option linter.unusedVariables false
theorem spec_l3Run0 (A : Option Addr) (c : Nat) (set : List Bool) (w : World) (hx : RdL bv w A 1 set) (hc : 1 ≤ c) :
    Calls Try.prog 56 #[.int .i64 2, .slice A 1 c] w (RetO iv 3 (runL 0 set) w) := by
  have HL := hx.len
  obtain ⟨b, off, t, rfl, HT, gt⟩ := hx.at (k := 0) (by omega)
  have hbw : b < w.heap.size := World.block_lt_of_cell? _ _ gt
  have HE : Hid (runL 0 set = if t then [1, 0] else [0, 1]) := by
    show _ = _
    have := fS_at HT.out
    cases t <;> simp [runL, runF, List.range_succ, this]
  have hmk : ∀ W : World, (Instr.makeSlice 25 (.int .i64 2) (.int .i64 2)).run Try.prog W = .ok (.slice (some ⟨W.heap.size, 0, none⟩) 2 2) (W.alloc (.cells (madeCells #[.int .i64 0] 2) 3)) := fun W => run_make_row' (P := Try.prog) 25 3 (.int .i64 0) 8 Try.underlying25 info_int rfl .i64 .i64 2 (by omega) (by omega) W
  cases t with
  | false =>
    have gt' : (w.alloc (.cells (madeCells #[.int .i64 0] 2) 3)).cell? ⟨b, off, none⟩ = some (bv false) := by
      refine ((below_box w _).cell (p := ⟨b, off, none⟩) hbw).trans ?_
      simpa using gt
    clear gt
    go_enter Try.func56, Try.ntmps56
    go_wp2_with fail
    go_ret
    have OX := OwnL.lit (emb := iv) (e := 3) (B := w.heap.size) (w.alloc (.cells (madeCells #[.int .i64 0] 2) 3)) [0, 1] (by simp [maxLen]) (by simp)
    rw [show (w.alloc (.cells (madeCells #[.int .i64 0] 2) 3)).heap.size = w.heap.size + 1 by simp] at OX
    exact ⟨_, _, _, rfl, by rw [show runL 0 set = [0, 1] from HE.out]; exact OX, (below_box w _).alloc (by simp) _⟩
  | true =>
    have gt' : (w.alloc (.cells (madeCells #[.int .i64 0] 2) 3)).cell? ⟨b, off, none⟩ = some (bv true) := by
      refine ((below_box w _).cell (p := ⟨b, off, none⟩) hbw).trans ?_
      simpa using gt
    clear gt
    go_enter Try.func56, Try.ntmps56
    go_wp2_with fail
    go_ret
    have OX := OwnL.lit (emb := iv) (e := 3) (B := w.heap.size) (w.alloc (.cells (madeCells #[.int .i64 0] 2) 3)) [1, 0] (by simp [maxLen]) (by simp)
    rw [show (w.alloc (.cells (madeCells #[.int .i64 0] 2) 3)).heap.size = w.heap.size + 1 by simp] at OX
    exact ⟨_, _, _, rfl, by rw [show runL 0 set = [1, 0] from HE.out]; exact OX, (below_box w _).alloc (by simp) _⟩
set_option maxHeartbeats 4000000 in
theorem spec_l3Run1 (A : Option Addr) (c : Nat) (set : List Bool) (w : World) (hx : RdL bv w A 6 set) (hc : 6 ≤ c) :
    Calls Try.prog 56 #[.int .i64 4, .slice A 6 c] w (RetO iv 3 (runL 1 set) w) := by
  have HL := hx.len
  obtain ⟨b, off, t0, rfl, -, -⟩ := hx.at (k := 0) (by omega)
  have hmk : ∀ W : World, (Instr.makeSlice 25 (.int .i64 4) (.int .i64 4)).run Try.prog W = .ok (.slice (some ⟨W.heap.size, 0, none⟩) 4 4) (W.alloc (.cells (madeCells #[.int .i64 0] 4) 3)) := fun W => run_make_row' (P := Try.prog) 25 3 (.int .i64 0) 8 Try.underlying25 info_int rfl .i64 .i64 4 (by omega) (by omega) W
  have O0 : OwnL iv (w.alloc (.cells (madeCells #[.int .i64 0] 4) 3)) w.heap.size 3 (some ⟨w.heap.size, 0, none⟩) 4 4 (List.replicate 4 0) := OwnL.made w 0 4 (by simp [maxLen]) _ (Nat.le_refl _)
  have B0 := below_box w (.cells (madeCells #[.int .i64 0] 4) 3)
  go_enter Try.func56, Try.ntmps56
  go_wp2_with fail
  refine (spec_LoopMany 2 _).mono ?_
  rintro e w1 ⟨rfl, m1, rfl⟩
  rw [show lManyI 2 = 1 from rfl]
  have B1 := below_drewN B0 m1
  go_wp2_with fail
  refine (spec_l3Run0 _ _ ((set.drop 2).take 1) _ (part_at 2 1 (hx.below B1 (Nat.le_refl _)) (by omega)) (by omega)).mono ?_
  rintro e w3 ⟨A3, n3, c3, rfl, O3, B3⟩
  have BW3 : Below w.heap.size w w3 := bstep B1 B3
  go_wp2_with fail
  refine (spec_l3Run0 _ _ ((set.drop 3).take 1) _ (part_at 3 1 (hx.below BW3 (Nat.le_refl _)) (by omega)) (by omega)).mono ?_
  rintro e w4 ⟨A4, n4, c4, rfl, O4, B4⟩
  have BW4 : Below w.heap.size w w4 := bstep BW3 B4
  have RU := (O3.below B4 (Nat.le_refl _)).rd
  have RL := O4.rd
  have O0' := ((O0.drewN m1).below B3 (Nat.le_refl _)).below B4 (Nat.le_refl _)
  have hgu3 : ∀ g, blk A3 = some g → w.heap.size + 1 ≤ g := fun g hg => by have := (O3.lt hg).1; simpa using this
  have hgu4 : ∀ g, blk A4 = some g → w.heap.size + 1 ≤ g := fun g hg => by have := (O4.lt hg).1; have h3 := B3.size; simp at h3; omega
  obtain rfl : n3 = 2 := by rw [← RU.len.out, runL_len]
  obtain rfl : n4 = 2 := by rw [← RL.len.out, runL_len]
  clear O3 O4 O0
  go_wp2_with fail
  clear hmk
  go_loopg [10] 4 (fun g s10 wr => ∃ k : Nat, k ≤ 4 ∧ g = 4 - k ∧ s10 = .int .i64 k ∧ OwnL iv wr w.heap.size 3 (some ⟨w.heap.size, 0, none⟩) 4 4 ((runL 1 set).take k ++ List.replicate (4 - k) 0) ∧ Below w.heap.size w wr ∧ RdL iv wr A3 2 (runL 0 ((set.drop 2).take 1)) ∧ RdL iv wr A4 2 (runL 0 ((set.drop 3).take 1)))
  case atStart => exact ⟨0, by omega, rfl, rfl, O0', BW4, RU, RL⟩
  case round =>
    obtain ⟨k, hk, rfl, rfl, hown, hbel, RU, RL⟩ := hrel
    have BW := hbel
    by_cases hlt : k < 4
    · obtain ⟨j, hkj⟩ : ∃ j, k / 2 = j := ⟨_, rfl⟩
      have hj : j < 2 := by omega
      have hkj2 : (k : Int) / 2 = (j : Int) := by omega
      obtain ⟨b0, off0, sb, hA, HB, gb⟩ := (hx.below BW (Nat.le_refl _)).at (k := j) (by omega)
      injection hA with hA; injection hA with hA1 hA2; subst hA1 hA2
      obtain ⟨g', y, hA, hB', hg', HY, gc, gf⟩ := hown.at hlt
      injection hA with hA; injection hA with hA; subst hA
      cases sb with
      | false =>
        rcases (by omega : k % 2 = 0 ∨ k % 2 = 1) with hkb | hkb
        · have hki : (k : Int) % 2 = 0 := by omega
          replace hkb := Lib.hid hkb
          obtain ⟨gu, offu, uz, rfl, HU, gcu⟩ := RU.at hj
          obtain ⟨u, hu⟩ : ∃ u, runF 0 (fS ((set.drop 2).take 1)) j = u := ⟨_, rfl⟩
          have huz : uz = (u : Int) := by have h := HU.out; rw [runL_at (by simpa using hj), hu] at h; injection h with h; exact h.symm
          subst huz
          have hu8 : u < 2 := by have h := runF_lt 0 (fS ((set.drop 2).take 1)) j (by simpa using hj); rw [hu] at h; simpa using h
          obtain ⟨b', off', t, hA, HT, gt⟩ := (hx.below BW (Nat.le_refl _)).at (k := 4 + u) (by omega)
          injection hA with hA; injection hA with hA1 hA2; subst hA1 hA2
          cases t with
          | false =>
            have HV : Hid ((runF 1 (fS set) k : Int) = 2 * (u : Int) + 0) := by
              show _ = _
              rw [run_up (d := 0) (n := 4) (H := 2) (I := 1) (by simp) (by simp [manyD]) (by rw [HL.out]; omega) hj hkj hu (fS_at HB.out) (fS_at HT.out) (by rw [hkb.out]; simp [bitN])]
              simp [bitN]
            clear HU
            go_wp2_with fail
            go_roundg (4 - (k + 1))
            case rel => exact ⟨k + 1, by omega, rfl, by go_num, by rw [← set_fill (runL_len 1 set) (by simpa using hlt) (runL_at (by simpa using hlt)), HV.out]; first | exact OwnL.set hown k _ | (have h := OwnL.set hown k (2 * (u : Int) + 0); simpa using h), hbel.setCell (Nat.le_refl _) _, RdL.keep RU (fun g hg _ => Below.heap_setCell wr _ _ g (by have := hgu3 g hg; show g ≠ w.heap.size; omega)), RdL.keep RL (fun g hg _ => Below.heap_setCell wr _ _ g (by have := hgu4 g hg; show g ≠ w.heap.size; omega))⟩
            case measure => omega
          | true =>
            have HV : Hid ((runF 1 (fS set) k : Int) = 2 * (u : Int) + 1) := by
              show _ = _
              rw [run_up (d := 0) (n := 4) (H := 2) (I := 1) (by simp) (by simp [manyD]) (by rw [HL.out]; omega) hj hkj hu (fS_at HB.out) (fS_at HT.out) (by rw [hkb.out]; simp [bitN])]
              simp [bitN]
            clear HU
            go_wp2_with fail
            go_roundg (4 - (k + 1))
            case rel => exact ⟨k + 1, by omega, rfl, by go_num, by rw [← set_fill (runL_len 1 set) (by simpa using hlt) (runL_at (by simpa using hlt)), HV.out]; first | exact OwnL.set hown k _ | (have h := OwnL.set hown k (2 * (u : Int) + 1); simpa using h), hbel.setCell (Nat.le_refl _) _, RdL.keep RU (fun g hg _ => Below.heap_setCell wr _ _ g (by have := hgu3 g hg; show g ≠ w.heap.size; omega)), RdL.keep RL (fun g hg _ => Below.heap_setCell wr _ _ g (by have := hgu4 g hg; show g ≠ w.heap.size; omega))⟩
            case measure => omega
        · have hki : (k : Int) % 2 = 1 := by omega
          replace hkb := Lib.hid hkb
          obtain ⟨gu, offu, uz, rfl, HU, gcu⟩ := RL.at hj
          obtain ⟨gv, offv, vz, rfl, HVv, gcv⟩ := RU.at hj
          clear HVv
          obtain ⟨u, hu⟩ : ∃ u, runF 0 (fS ((set.drop 3).take 1)) j = u := ⟨_, rfl⟩
          have huz : uz = (u : Int) := by have h := HU.out; rw [runL_at (by simpa using hj), hu] at h; injection h with h; exact h.symm
          subst huz
          have hu8 : u < 2 := by have h := runF_lt 0 (fS ((set.drop 3).take 1)) j (by simpa using hj); rw [hu] at h; simpa using h
          obtain ⟨b', off', t, hA, HT, gt⟩ := (hx.below BW (Nat.le_refl _)).at (k := 4 + u) (by omega)
          injection hA with hA; injection hA with hA1 hA2; subst hA1 hA2
          cases t with
          | false =>
            have HV : Hid ((runF 1 (fS set) k : Int) = 2 * (u : Int) + 1) := by
              show _ = _
              rw [run_lo (d := 0) (n := 4) (H := 2) (I := 1) (by simp) (by simp [manyD]) (by rw [HL.out]; omega) hj hkj hu (fS_at HB.out) (fS_at HT.out) (by rw [hkb.out]; simp [bitN])]
              simp [bitN]
            clear HU
            go_wp2_with fail
            go_roundg (4 - (k + 1))
            case rel => exact ⟨k + 1, by omega, rfl, by go_num, by rw [← set_fill (runL_len 1 set) (by simpa using hlt) (runL_at (by simpa using hlt)), HV.out]; first | exact OwnL.set hown k _ | (have h := OwnL.set hown k (2 * (u : Int) + 1); simpa using h), hbel.setCell (Nat.le_refl _) _, RdL.keep RU (fun g hg _ => Below.heap_setCell wr _ _ g (by have := hgu3 g hg; show g ≠ w.heap.size; omega)), RdL.keep RL (fun g hg _ => Below.heap_setCell wr _ _ g (by have := hgu4 g hg; show g ≠ w.heap.size; omega))⟩
            case measure => omega
          | true =>
            have HV : Hid ((runF 1 (fS set) k : Int) = 2 * (u : Int) + 0) := by
              show _ = _
              rw [run_lo (d := 0) (n := 4) (H := 2) (I := 1) (by simp) (by simp [manyD]) (by rw [HL.out]; omega) hj hkj hu (fS_at HB.out) (fS_at HT.out) (by rw [hkb.out]; simp [bitN])]
              simp [bitN]
            clear HU
            go_wp2_with fail
            go_roundg (4 - (k + 1))
            case rel => exact ⟨k + 1, by omega, rfl, by go_num, by rw [← set_fill (runL_len 1 set) (by simpa using hlt) (runL_at (by simpa using hlt)), HV.out]; first | exact OwnL.set hown k _ | (have h := OwnL.set hown k (2 * (u : Int) + 0); simpa using h), hbel.setCell (Nat.le_refl _) _, RdL.keep RU (fun g hg _ => Below.heap_setCell wr _ _ g (by have := hgu3 g hg; show g ≠ w.heap.size; omega)), RdL.keep RL (fun g hg _ => Below.heap_setCell wr _ _ g (by have := hgu4 g hg; show g ≠ w.heap.size; omega))⟩
            case measure => omega
      | true =>
        rcases (by omega : k % 2 = 0 ∨ k % 2 = 1) with hkb | hkb
        · have hki : (k : Int) % 2 = 0 := by omega
          replace hkb := Lib.hid hkb
          obtain ⟨gu, offu, uz, rfl, HU, gcu⟩ := RL.at hj
          obtain ⟨gv, offv, vz, rfl, HVv, gcv⟩ := RU.at hj
          clear HVv
          obtain ⟨u, hu⟩ : ∃ u, runF 0 (fS ((set.drop 3).take 1)) j = u := ⟨_, rfl⟩
          have huz : uz = (u : Int) := by have h := HU.out; rw [runL_at (by simpa using hj), hu] at h; injection h with h; exact h.symm
          subst huz
          have hu8 : u < 2 := by have h := runF_lt 0 (fS ((set.drop 3).take 1)) j (by simpa using hj); rw [hu] at h; simpa using h
          obtain ⟨b', off', t, hA, HT, gt⟩ := (hx.below BW (Nat.le_refl _)).at (k := 4 + u) (by omega)
          injection hA with hA; injection hA with hA1 hA2; subst hA1 hA2
          cases t with
          | false =>
            have HV : Hid ((runF 1 (fS set) k : Int) = 2 * (u : Int) + 1) := by
              show _ = _
              rw [run_lo (d := 0) (n := 4) (H := 2) (I := 1) (by simp) (by simp [manyD]) (by rw [HL.out]; omega) hj hkj hu (fS_at HB.out) (fS_at HT.out) (by rw [hkb.out]; simp [bitN])]
              simp [bitN]
            clear HU
            go_wp2_with fail
            go_roundg (4 - (k + 1))
            case rel => exact ⟨k + 1, by omega, rfl, by go_num, by rw [← set_fill (runL_len 1 set) (by simpa using hlt) (runL_at (by simpa using hlt)), HV.out]; first | exact OwnL.set hown k _ | (have h := OwnL.set hown k (2 * (u : Int) + 1); simpa using h), hbel.setCell (Nat.le_refl _) _, RdL.keep RU (fun g hg _ => Below.heap_setCell wr _ _ g (by have := hgu3 g hg; show g ≠ w.heap.size; omega)), RdL.keep RL (fun g hg _ => Below.heap_setCell wr _ _ g (by have := hgu4 g hg; show g ≠ w.heap.size; omega))⟩
            case measure => omega
          | true =>
            have HV : Hid ((runF 1 (fS set) k : Int) = 2 * (u : Int) + 0) := by
              show _ = _
              rw [run_lo (d := 0) (n := 4) (H := 2) (I := 1) (by simp) (by simp [manyD]) (by rw [HL.out]; omega) hj hkj hu (fS_at HB.out) (fS_at HT.out) (by rw [hkb.out]; simp [bitN])]
              simp [bitN]
            clear HU
            go_wp2_with fail
            go_roundg (4 - (k + 1))
            case rel => exact ⟨k + 1, by omega, rfl, by go_num, by rw [← set_fill (runL_len 1 set) (by simpa using hlt) (runL_at (by simpa using hlt)), HV.out]; first | exact OwnL.set hown k _ | (have h := OwnL.set hown k (2 * (u : Int) + 0); simpa using h), hbel.setCell (Nat.le_refl _) _, RdL.keep RU (fun g hg _ => Below.heap_setCell wr _ _ g (by have := hgu3 g hg; show g ≠ w.heap.size; omega)), RdL.keep RL (fun g hg _ => Below.heap_setCell wr _ _ g (by have := hgu4 g hg; show g ≠ w.heap.size; omega))⟩
            case measure => omega
        · have hki : (k : Int) % 2 = 1 := by omega
          replace hkb := Lib.hid hkb
          obtain ⟨gu, offu, uz, rfl, HU, gcu⟩ := RU.at hj
          obtain ⟨u, hu⟩ : ∃ u, runF 0 (fS ((set.drop 2).take 1)) j = u := ⟨_, rfl⟩
          have huz : uz = (u : Int) := by have h := HU.out; rw [runL_at (by simpa using hj), hu] at h; injection h with h; exact h.symm
          subst huz
          have hu8 : u < 2 := by have h := runF_lt 0 (fS ((set.drop 2).take 1)) j (by simpa using hj); rw [hu] at h; simpa using h
          obtain ⟨b', off', t, hA, HT, gt⟩ := (hx.below BW (Nat.le_refl _)).at (k := 4 + u) (by omega)
          injection hA with hA; injection hA with hA1 hA2; subst hA1 hA2
          cases t with
          | false =>
            have HV : Hid ((runF 1 (fS set) k : Int) = 2 * (u : Int) + 0) := by
              show _ = _
              rw [run_up (d := 0) (n := 4) (H := 2) (I := 1) (by simp) (by simp [manyD]) (by rw [HL.out]; omega) hj hkj hu (fS_at HB.out) (fS_at HT.out) (by rw [hkb.out]; simp [bitN])]
              simp [bitN]
            clear HU
            go_wp2_with fail
            go_roundg (4 - (k + 1))
            case rel => exact ⟨k + 1, by omega, rfl, by go_num, by rw [← set_fill (runL_len 1 set) (by simpa using hlt) (runL_at (by simpa using hlt)), HV.out]; first | exact OwnL.set hown k _ | (have h := OwnL.set hown k (2 * (u : Int) + 0); simpa using h), hbel.setCell (Nat.le_refl _) _, RdL.keep RU (fun g hg _ => Below.heap_setCell wr _ _ g (by have := hgu3 g hg; show g ≠ w.heap.size; omega)), RdL.keep RL (fun g hg _ => Below.heap_setCell wr _ _ g (by have := hgu4 g hg; show g ≠ w.heap.size; omega))⟩
            case measure => omega
          | true =>
            have HV : Hid ((runF 1 (fS set) k : Int) = 2 * (u : Int) + 1) := by
              show _ = _
              rw [run_up (d := 0) (n := 4) (H := 2) (I := 1) (by simp) (by simp [manyD]) (by rw [HL.out]; omega) hj hkj hu (fS_at HB.out) (fS_at HT.out) (by rw [hkb.out]; simp [bitN])]
              simp [bitN]
            clear HU
            go_wp2_with fail
            go_roundg (4 - (k + 1))
            case rel => exact ⟨k + 1, by omega, rfl, by go_num, by rw [← set_fill (runL_len 1 set) (by simpa using hlt) (runL_at (by simpa using hlt)), HV.out]; first | exact OwnL.set hown k _ | (have h := OwnL.set hown k (2 * (u : Int) + 1); simpa using h), hbel.setCell (Nat.le_refl _) _, RdL.keep RU (fun g hg _ => Below.heap_setCell wr _ _ g (by have := hgu3 g hg; show g ≠ w.heap.size; omega)), RdL.keep RL (fun g hg _ => Below.heap_setCell wr _ _ g (by have := hgu4 g hg; show g ≠ w.heap.size; omega))⟩
            case measure => omega
    · go_wp2_with fail
      go_ret
      obtain rfl : k = 4 := by omega
      rw [Nat.sub_self, List.take_of_length_le (by rw [runL_len]; simp)] at hown
      exact ⟨_, _, _, rfl, by simpa using hown, hbel⟩
set_option maxHeartbeats 4000000 in
theorem spec_l3Run2 (A : Option Addr) (c : Nat) (set : List Bool) (w : World) (hx : RdL bv w A 20 set) (hc : 20 ≤ c) :
    Calls Try.prog 56 #[.int .i64 8, .slice A 20 c] w (RetO iv 3 (runL 2 set) w) := by
  have HL := hx.len
  obtain ⟨b, off, t0, rfl, -, -⟩ := hx.at (k := 0) (by omega)
  have hmk : ∀ W : World, (Instr.makeSlice 25 (.int .i64 8) (.int .i64 8)).run Try.prog W = .ok (.slice (some ⟨W.heap.size, 0, none⟩) 8 8) (W.alloc (.cells (madeCells #[.int .i64 0] 8) 3)) := fun W => run_make_row' (P := Try.prog) 25 3 (.int .i64 0) 8 Try.underlying25 info_int rfl .i64 .i64 8 (by omega) (by omega) W
  have O0 : OwnL iv (w.alloc (.cells (madeCells #[.int .i64 0] 8) 3)) w.heap.size 3 (some ⟨w.heap.size, 0, none⟩) 8 8 (List.replicate 8 0) := OwnL.made w 0 8 (by simp [maxLen]) _ (Nat.le_refl _)
  have B0 := below_box w (.cells (madeCells #[.int .i64 0] 8) 3)
  go_enter Try.func56, Try.ntmps56
  go_wp2_with fail
  refine (spec_LoopMany 4 _).mono ?_
  rintro e w1 ⟨rfl, m1, rfl⟩
  rw [show lManyI 4 = 6 from rfl]
  have B1 := below_drewN B0 m1
  go_wp2_with fail
  refine (spec_l3Run1 _ _ ((set.drop 4).take 6) _ (part_at 4 6 (hx.below B1 (Nat.le_refl _)) (by omega)) (by omega)).mono ?_
  rintro e w3 ⟨A3, n3, c3, rfl, O3, B3⟩
  have BW3 : Below w.heap.size w w3 := bstep B1 B3
  go_wp2_with fail
  refine (spec_l3Run1 _ _ ((set.drop 10).take 6) _ (part_at 10 6 (hx.below BW3 (Nat.le_refl _)) (by omega)) (by omega)).mono ?_
  rintro e w4 ⟨A4, n4, c4, rfl, O4, B4⟩
  have BW4 : Below w.heap.size w w4 := bstep BW3 B4
  have RU := (O3.below B4 (Nat.le_refl _)).rd
  have RL := O4.rd
  have O0' := ((O0.drewN m1).below B3 (Nat.le_refl _)).below B4 (Nat.le_refl _)
  have hgu3 : ∀ g, blk A3 = some g → w.heap.size + 1 ≤ g := fun g hg => by have := (O3.lt hg).1; simpa using this
  have hgu4 : ∀ g, blk A4 = some g → w.heap.size + 1 ≤ g := fun g hg => by have := (O4.lt hg).1; have h3 := B3.size; simp at h3; omega
  obtain rfl : n3 = 4 := by rw [← RU.len.out, runL_len]
  obtain rfl : n4 = 4 := by rw [← RL.len.out, runL_len]
  clear O3 O4 O0
  go_wp2_with fail
  clear hmk
  go_loopg [10] 8 (fun g s10 wr => ∃ k : Nat, k ≤ 8 ∧ g = 8 - k ∧ s10 = .int .i64 k ∧ OwnL iv wr w.heap.size 3 (some ⟨w.heap.size, 0, none⟩) 8 8 ((runL 2 set).take k ++ List.replicate (8 - k) 0) ∧ Below w.heap.size w wr ∧ RdL iv wr A3 4 (runL 1 ((set.drop 4).take 6)) ∧ RdL iv wr A4 4 (runL 1 ((set.drop 10).take 6)))
  case atStart => exact ⟨0, by omega, rfl, rfl, O0', BW4, RU, RL⟩
  case round =>
    obtain ⟨k, hk, rfl, rfl, hown, hbel, RU, RL⟩ := hrel
    have BW := hbel
    by_cases hlt : k < 8
    · obtain ⟨j, hkj⟩ : ∃ j, k / 2 = j := ⟨_, rfl⟩
      have hj : j < 4 := by omega
      have hkj2 : (k : Int) / 2 = (j : Int) := by omega
      obtain ⟨b0, off0, sb, hA, HB, gb⟩ := (hx.below BW (Nat.le_refl _)).at (k := j) (by omega)
      injection hA with hA; injection hA with hA1 hA2; subst hA1 hA2
      obtain ⟨g', y, hA, hB', hg', HY, gc, gf⟩ := hown.at hlt
      injection hA with hA; injection hA with hA; subst hA
      cases sb with
      | false =>
        rcases (by omega : k % 2 = 0 ∨ k % 2 = 1) with hkb | hkb
        · have hki : (k : Int) % 2 = 0 := by omega
          replace hkb := Lib.hid hkb
          obtain ⟨gu, offu, uz, rfl, HU, gcu⟩ := RU.at hj
          obtain ⟨u, hu⟩ : ∃ u, runF 1 (fS ((set.drop 4).take 6)) j = u := ⟨_, rfl⟩
          have huz : uz = (u : Int) := by have h := HU.out; rw [runL_at (by simpa using hj), hu] at h; injection h with h; exact h.symm
          subst huz
          have hu8 : u < 4 := by have h := runF_lt 1 (fS ((set.drop 4).take 6)) j (by simpa using hj); rw [hu] at h; simpa using h
          obtain ⟨b', off', t, hA, HT, gt⟩ := (hx.below BW (Nat.le_refl _)).at (k := 16 + u) (by omega)
          injection hA with hA; injection hA with hA1 hA2; subst hA1 hA2
          cases t with
          | false =>
            have HV : Hid ((runF 2 (fS set) k : Int) = 2 * (u : Int) + 0) := by
              show _ = _
              rw [run_up (d := 1) (n := 8) (H := 4) (I := 6) (by simp) (by simp [manyD]) (by rw [HL.out]; omega) hj hkj hu (fS_at HB.out) (fS_at HT.out) (by rw [hkb.out]; simp [bitN])]
              simp [bitN]
            clear HU
            go_wp2_with fail
            go_roundg (8 - (k + 1))
            case rel => exact ⟨k + 1, by omega, rfl, by go_num, by rw [← set_fill (runL_len 2 set) (by simpa using hlt) (runL_at (by simpa using hlt)), HV.out]; first | exact OwnL.set hown k _ | (have h := OwnL.set hown k (2 * (u : Int) + 0); simpa using h), hbel.setCell (Nat.le_refl _) _, RdL.keep RU (fun g hg _ => Below.heap_setCell wr _ _ g (by have := hgu3 g hg; show g ≠ w.heap.size; omega)), RdL.keep RL (fun g hg _ => Below.heap_setCell wr _ _ g (by have := hgu4 g hg; show g ≠ w.heap.size; omega))⟩
            case measure => omega
          | true =>
            have HV : Hid ((runF 2 (fS set) k : Int) = 2 * (u : Int) + 1) := by
              show _ = _
              rw [run_up (d := 1) (n := 8) (H := 4) (I := 6) (by simp) (by simp [manyD]) (by rw [HL.out]; omega) hj hkj hu (fS_at HB.out) (fS_at HT.out) (by rw [hkb.out]; simp [bitN])]
              simp [bitN]
            clear HU
            go_wp2_with fail
            go_roundg (8 - (k + 1))
            case rel => exact ⟨k + 1, by omega, rfl, by go_num, by rw [← set_fill (runL_len 2 set) (by simpa using hlt) (runL_at (by simpa using hlt)), HV.out]; first | exact OwnL.set hown k _ | (have h := OwnL.set hown k (2 * (u : Int) + 1); simpa using h), hbel.setCell (Nat.le_refl _) _, RdL.keep RU (fun g hg _ => Below.heap_setCell wr _ _ g (by have := hgu3 g hg; show g ≠ w.heap.size; omega)), RdL.keep RL (fun g hg _ => Below.heap_setCell wr _ _ g (by have := hgu4 g hg; show g ≠ w.heap.size; omega))⟩
            case measure => omega
        · have hki : (k : Int) % 2 = 1 := by omega
          replace hkb := Lib.hid hkb
          obtain ⟨gu, offu, uz, rfl, HU, gcu⟩ := RL.at hj
          obtain ⟨gv, offv, vz, rfl, HVv, gcv⟩ := RU.at hj
          clear HVv
          obtain ⟨u, hu⟩ : ∃ u, runF 1 (fS ((set.drop 10).take 6)) j = u := ⟨_, rfl⟩
          have huz : uz = (u : Int) := by have h := HU.out; rw [runL_at (by simpa using hj), hu] at h; injection h with h; exact h.symm
          subst huz
          have hu8 : u < 4 := by have h := runF_lt 1 (fS ((set.drop 10).take 6)) j (by simpa using hj); rw [hu] at h; simpa using h
          obtain ⟨b', off', t, hA, HT, gt⟩ := (hx.below BW (Nat.le_refl _)).at (k := 16 + u) (by omega)
          injection hA with hA; injection hA with hA1 hA2; subst hA1 hA2
          cases t with
          | false =>
            have HV : Hid ((runF 2 (fS set) k : Int) = 2 * (u : Int) + 1) := by
              show _ = _
              rw [run_lo (d := 1) (n := 8) (H := 4) (I := 6) (by simp) (by simp [manyD]) (by rw [HL.out]; omega) hj hkj hu (fS_at HB.out) (fS_at HT.out) (by rw [hkb.out]; simp [bitN])]
              simp [bitN]
            clear HU
            go_wp2_with fail
            go_roundg (8 - (k + 1))
            case rel => exact ⟨k + 1, by omega, rfl, by go_num, by rw [← set_fill (runL_len 2 set) (by simpa using hlt) (runL_at (by simpa using hlt)), HV.out]; first | exact OwnL.set hown k _ | (have h := OwnL.set hown k (2 * (u : Int) + 1); simpa using h), hbel.setCell (Nat.le_refl _) _, RdL.keep RU (fun g hg _ => Below.heap_setCell wr _ _ g (by have := hgu3 g hg; show g ≠ w.heap.size; omega)), RdL.keep RL (fun g hg _ => Below.heap_setCell wr _ _ g (by have := hgu4 g hg; show g ≠ w.heap.size; omega))⟩
            case measure => omega
          | true =>
            have HV : Hid ((runF 2 (fS set) k : Int) = 2 * (u : Int) + 0) := by
              show _ = _
              rw [run_lo (d := 1) (n := 8) (H := 4) (I := 6) (by simp) (by simp [manyD]) (by rw [HL.out]; omega) hj hkj hu (fS_at HB.out) (fS_at HT.out) (by rw [hkb.out]; simp [bitN])]
              simp [bitN]
            clear HU
            go_wp2_with fail
            go_roundg (8 - (k + 1))
            case rel => exact ⟨k + 1, by omega, rfl, by go_num, by rw [← set_fill (runL_len 2 set) (by simpa using hlt) (runL_at (by simpa using hlt)), HV.out]; first | exact OwnL.set hown k _ | (have h := OwnL.set hown k (2 * (u : Int) + 0); simpa using h), hbel.setCell (Nat.le_refl _) _, RdL.keep RU (fun g hg _ => Below.heap_setCell wr _ _ g (by have := hgu3 g hg; show g ≠ w.heap.size; omega)), RdL.keep RL (fun g hg _ => Below.heap_setCell wr _ _ g (by have := hgu4 g hg; show g ≠ w.heap.size; omega))⟩
            case measure => omega
      | true =>
        rcases (by omega : k % 2 = 0 ∨ k % 2 = 1) with hkb | hkb
        · have hki : (k : Int) % 2 = 0 := by omega
          replace hkb := Lib.hid hkb
          obtain ⟨gu, offu, uz, rfl, HU, gcu⟩ := RL.at hj
          obtain ⟨gv, offv, vz, rfl, HVv, gcv⟩ := RU.at hj
          clear HVv
          obtain ⟨u, hu⟩ : ∃ u, runF 1 (fS ((set.drop 10).take 6)) j = u := ⟨_, rfl⟩
          have huz : uz = (u : Int) := by have h := HU.out; rw [runL_at (by simpa using hj), hu] at h; injection h with h; exact h.symm
          subst huz
          have hu8 : u < 4 := by have h := runF_lt 1 (fS ((set.drop 10).take 6)) j (by simpa using hj); rw [hu] at h; simpa using h
          obtain ⟨b', off', t, hA, HT, gt⟩ := (hx.below BW (Nat.le_refl _)).at (k := 16 + u) (by omega)
          injection hA with hA; injection hA with hA1 hA2; subst hA1 hA2
          cases t with
          | false =>
            have HV : Hid ((runF 2 (fS set) k : Int) = 2 * (u : Int) + 1) := by
              show _ = _
              rw [run_lo (d := 1) (n := 8) (H := 4) (I := 6) (by simp) (by simp [manyD]) (by rw [HL.out]; omega) hj hkj hu (fS_at HB.out) (fS_at HT.out) (by rw [hkb.out]; simp [bitN])]
              simp [bitN]
            clear HU
            go_wp2_with fail
            go_roundg (8 - (k + 1))
            case rel => exact ⟨k + 1, by omega, rfl, by go_num, by rw [← set_fill (runL_len 2 set) (by simpa using hlt) (runL_at (by simpa using hlt)), HV.out]; first | exact OwnL.set hown k _ | (have h := OwnL.set hown k (2 * (u : Int) + 1); simpa using h), hbel.setCell (Nat.le_refl _) _, RdL.keep RU (fun g hg _ => Below.heap_setCell wr _ _ g (by have := hgu3 g hg; show g ≠ w.heap.size; omega)), RdL.keep RL (fun g hg _ => Below.heap_setCell wr _ _ g (by have := hgu4 g hg; show g ≠ w.heap.size; omega))⟩
            case measure => omega
          | true =>
            have HV : Hid ((runF 2 (fS set) k : Int) = 2 * (u : Int) + 0) := by
              show _ = _
              rw [run_lo (d := 1) (n := 8) (H := 4) (I := 6) (by simp) (by simp [manyD]) (by rw [HL.out]; omega) hj hkj hu (fS_at HB.out) (fS_at HT.out) (by rw [hkb.out]; simp [bitN])]
              simp [bitN]
            clear HU
            go_wp2_with fail
            go_roundg (8 - (k + 1))
            case rel => exact ⟨k + 1, by omega, rfl, by go_num, by rw [← set_fill (runL_len 2 set) (by simpa using hlt) (runL_at (by simpa using hlt)), HV.out]; first | exact OwnL.set hown k _ | (have h := OwnL.set hown k (2 * (u : Int) + 0); simpa using h), hbel.setCell (Nat.le_refl _) _, RdL.keep RU (fun g hg _ => Below.heap_setCell wr _ _ g (by have := hgu3 g hg; show g ≠ w.heap.size; omega)), RdL.keep RL (fun g hg _ => Below.heap_setCell wr _ _ g (by have := hgu4 g hg; show g ≠ w.heap.size; omega))⟩
            case measure => omega
        · have hki : (k : Int) % 2 = 1 := by omega
          replace hkb := Lib.hid hkb
          obtain ⟨gu, offu, uz, rfl, HU, gcu⟩ := RU.at hj
          obtain ⟨u, hu⟩ : ∃ u, runF 1 (fS ((set.drop 4).take 6)) j = u := ⟨_, rfl⟩
          have huz : uz = (u : Int) := by have h := HU.out; rw [runL_at (by simpa using hj), hu] at h; injection h with h; exact h.symm
          subst huz
          have hu8 : u < 4 := by have h := runF_lt 1 (fS ((set.drop 4).take 6)) j (by simpa using hj); rw [hu] at h; simpa using h
          obtain ⟨b', off', t, hA, HT, gt⟩ := (hx.below BW (Nat.le_refl _)).at (k := 16 + u) (by omega)
          injection hA with hA; injection hA with hA1 hA2; subst hA1 hA2
          cases t with
          | false =>
            have HV : Hid ((runF 2 (fS set) k : Int) = 2 * (u : Int) + 0) := by
              show _ = _
              rw [run_up (d := 1) (n := 8) (H := 4) (I := 6) (by simp) (by simp [manyD]) (by rw [HL.out]; omega) hj hkj hu (fS_at HB.out) (fS_at HT.out) (by rw [hkb.out]; simp [bitN])]
              simp [bitN]
            clear HU
            go_wp2_with fail
            go_roundg (8 - (k + 1))
            case rel => exact ⟨k + 1, by omega, rfl, by go_num, by rw [← set_fill (runL_len 2 set) (by simpa using hlt) (runL_at (by simpa using hlt)), HV.out]; first | exact OwnL.set hown k _ | (have h := OwnL.set hown k (2 * (u : Int) + 0); simpa using h), hbel.setCell (Nat.le_refl _) _, RdL.keep RU (fun g hg _ => Below.heap_setCell wr _ _ g (by have := hgu3 g hg; show g ≠ w.heap.size; omega)), RdL.keep RL (fun g hg _ => Below.heap_setCell wr _ _ g (by have := hgu4 g hg; show g ≠ w.heap.size; omega))⟩
            case measure => omega
          | true =>
            have HV : Hid ((runF 2 (fS set) k : Int) = 2 * (u : Int) + 1) := by
              show _ = _
              rw [run_up (d := 1) (n := 8) (H := 4) (I := 6) (by simp) (by simp [manyD]) (by rw [HL.out]; omega) hj hkj hu (fS_at HB.out) (fS_at HT.out) (by rw [hkb.out]; simp [bitN])]
              simp [bitN]
            clear HU
            go_wp2_with fail
            go_roundg (8 - (k + 1))
            case rel => exact ⟨k + 1, by omega, rfl, by go_num, by rw [← set_fill (runL_len 2 set) (by simpa using hlt) (runL_at (by simpa using hlt)), HV.out]; first | exact OwnL.set hown k _ | (have h := OwnL.set hown k (2 * (u : Int) + 1); simpa using h), hbel.setCell (Nat.le_refl _) _, RdL.keep RU (fun g hg _ => Below.heap_setCell wr _ _ g (by have := hgu3 g hg; show g ≠ w.heap.size; omega)), RdL.keep RL (fun g hg _ => Below.heap_setCell wr _ _ g (by have := hgu4 g hg; show g ≠ w.heap.size; omega))⟩
            case measure => omega
    · go_wp2_with fail
      go_ret
      obtain rfl : k = 8 := by omega
      rw [Nat.sub_self, List.take_of_length_le (by rw [runL_len]; simp)] at hown
      exact ⟨_, _, _, rfl, by simpa using hown, hbel⟩
theorem spec_LoopRun_no (l : Int) (A : Option Addr) (m c : Nat) (set : List Bool) (w : World) (hx : RdL bv w A m set) (hno : ¬ lManyI l = (set.length : Int)) :
    Calls Try.prog 27 #[.int .i64 l, .slice A m c] w (RetO iv 3 (loopRunL l set) w) := by
  have HE := Lib.hid (lr_no hno)
  have HL := hx.len
  obtain ⟨V, HV⟩ : ∃ V, Hid (lManyI l = V) := ⟨_, rfl⟩
  have hvm : ¬ V = (m : Int) := by rw [← HV.out, ← HL.out]; exact hno
  clear hno
  have z1 : ((m : Int) != V) = true := by simp; omega
  cases hb : linesB l with
  | false =>
    have HB := Lib.hid hb; clear hb
    go_enter Try.func27, Try.ntmps27
    go_wp2_with fail
    refine (spec_l3Lines l _).mono ?_
    rintro e w1 ⟨rfl, m1, rfl⟩
    rw [HB.out]
    go_wp2_with fail
    go_ret
    exact ⟨_, _, _, rfl, by rw [HE.out]; exact OwnL.lit (w.drewN m1) [] (by simp) (Nat.le_refl _), (below_drewN (Below.refl _ _) _).alloc (Nat.le_refl _) _⟩
  | true =>
    have HB := Lib.hid hb; clear hb
    go_enter Try.func27, Try.ntmps27
    go_wp2_with fail
    refine (spec_l3Lines l _).mono ?_
    rintro e w1 ⟨rfl, m1, rfl⟩
    rw [HB.out]
    go_wp2_with fail
    refine (spec_LoopMany l _).mono ?_
    rintro e w1 ⟨rfl, m2, rfl⟩
    rw [HV.out]
    go_wp2_with fail
    go_ret
    exact ⟨_, _, _, rfl, by rw [HE.out]; exact OwnL.lit (w.drewN (m1 + m2)) [] (by simp) (Nat.le_refl _), (below_drewN (Below.refl _ _) _).alloc (Nat.le_refl _) _⟩
theorem spec_LoopRun_yes (l : Int) (A : Option Addr) (m c : Nat) (set : List Bool) (w : World) (hb : linesB l = true) (hl : lManyI l = (m : Int)) (d : Nat)
    (h : ∀ w', Below w.heap.size w w' → Calls Try.prog 56 #[.int .i64 l, .slice A m c] w' (RetO iv 3 (runL d set) w')) :
    Calls Try.prog 27 #[.int .i64 l, .slice A m c] w (RetO iv 3 (runL d set) w) := by
  have HB := Lib.hid hb; clear hb
  have HV := Lib.hid hl; clear hl
  have z1 : ((m : Int) != (m : Int)) = false := by simp
  go_enter Try.func27, Try.ntmps27
  go_wp2_with fail
  refine (spec_l3Lines l _).mono ?_
  rintro e w1 ⟨rfl, m1, rfl⟩
  rw [HB.out]
  go_wp2_with fail
  refine (spec_LoopMany l _).mono ?_
  rintro e w1 ⟨rfl, m2, rfl⟩
  rw [HV.out]
  go_wp2_with fail
  refine (h _ (below_drewN (Below.refl _ _) _)).mono ?_
  rintro e w3 ⟨A3, n3, c3, rfl, O3, B3⟩
  go_wp2_with fail
  go_ret
  exact ⟨_, _, _, rfl, O3, bstep (below_drewN (Below.refl _ _) _) B3⟩
theorem spec_LoopRun (l : Int) (A : Option Addr) (m c : Nat) (set : List Bool) (w : World) (hx : RdL bv w A m set) (hc : m ≤ c) (hm : m ≤ 1048576) :
    Calls Try.prog 27 #[.int .i64 l, .slice A m c] w (RetO iv 3 (loopRunL l set) w) := by
  by_cases h : lManyI l = (set.length : Int)
  · have hl := hx.len.out
    rw [lr_yes h]
    rw [hl] at h
    rcases many_cases l with h1 | ⟨rfl, h1⟩ | ⟨rfl, h1⟩ | ⟨rfl, h1⟩
    · omega
    · obtain rfl : m = 1 := by omega
      exact spec_LoopRun_yes 2 A 1 c set w rfl h 0 fun w' b => spec_l3Run0 A c set w' (hx.below b (Nat.le_refl _)) hc
    · obtain rfl : m = 6 := by omega
      exact spec_LoopRun_yes 4 A 6 c set w rfl h 1 fun w' b => spec_l3Run1 A c set w' (hx.below b (Nat.le_refl _)) hc
    · obtain rfl : m = 20 := by omega
      exact spec_LoopRun_yes 8 A 20 c set w rfl h 2 fun w' b => spec_l3Run2 A c set w' (hx.below b (Nat.le_refl _)) hc
  · exact spec_LoopRun_no l A m c set w hx h
end Go.Proofs.Ytiahpaakkijejaa
