/- LoopRun of both. Condition: at most 1048576 settings. -/
import Derived.Test.Ytiahpaakkijejaa3a
import Derived.Test.Ytiahpaakkijejaa3c
import Derived.Deep.RegionHeld3
import Derived.Deep.DeepCutAuto
namespace Go.Proofs.Ytiahpaakkijejaa
open Go.RowKit
set_option linter.unusedSimpArgs false
set_option linter.unusedVariables false
def fS (set : List Bool) (x : Nat) : Bool := set.getD x false
theorem fS_at {set : List Bool} {x : Nat} {t : Bool} (h : set[x]? = some t) : fS set x = t := by unfold fS; rw [List.getD_eq_getElem?_getD, h]; rfl
def runL (d : Nat) (set : List Bool) : List Int := (List.range (2 ^ (d + 1))).map fun k => (runF d (fS set) k : Int)
theorem runL_len (d : Nat) (set : List Bool) : (runL d set).length = 2 ^ (d + 1) := by simp [runL]
theorem runL_at {d : Nat} {set : List Bool} {k : Nat} (h : k < 2 ^ (d + 1)) : (runL d set)[k]? = some (runF d (fS set) k : Int) := by simp [runL, h]
theorem fS_part {set : List Bool} {a m x : Nat} (hx : x < m) (hl : a + m ≤ set.length) : fS ((set.drop a).take m) x = fS set (a + x) := by
  unfold fS
  rw [List.getD_eq_getElem?_getD, List.getD_eq_getElem?_getD, List.getElem?_take, if_pos hx, List.getElem?_drop]
/-- The two inner networks of a greater one. -/
theorem run_part {d : Nat} {set : List Bool} {a k : Nat} (hk : k < 2 ^ (d + 1)) (hl : a + manyD d ≤ set.length) : runF d (fS ((set.drop a).take (manyD d))) k = runF d (fun x => fS set (a + x)) k :=
  runF_congr d _ _ k hk fun x hx => fS_part hx hl
theorem run_up {d n H I : Nat} {set : List Bool} {k j : Nat} (hH : 2 ^ (d + 1) = H) (hI : manyD d = I) (hl : 2 * H + 2 * I ≤ set.length) (hj : j < H) (hkj : k / 2 = j) {u : Nat} (hu : runF d (fS ((set.drop H).take I)) j = u) {t b : Bool} (hb : fS set j = b) (ht : fS set (H + 2 * I + u) = t) (hbk : k % 2 = bitN b) :
    runF (d + 1) (fS set) k = 2 * u + bitN t := by
  subst hH hI
  have h1 := run_part (d := d) (set := set) (a := 2 ^ (d + 1)) (k := j) hj (by omega)
  rw [hu] at h1
  rw [runF_succ, hkj, hb, if_pos hbk, ← h1, ht]
theorem run_lo {d n H I : Nat} {set : List Bool} {k j : Nat} (hH : 2 ^ (d + 1) = H) (hI : manyD d = I) (hl : 2 * H + 2 * I ≤ set.length) (hj : j < H) (hkj : k / 2 = j) {u : Nat} (hu : runF d (fS ((set.drop (H + I)).take I)) j = u) {t b : Bool} (hb : fS set j = b) (ht : fS set (H + 2 * I + u) = t) (hbk : ¬ k % 2 = bitN b) :
    runF (d + 1) (fS set) k = 2 * u + 1 - bitN t := by
  subst hH hI
  have h1 := run_part (d := d) (set := set) (a := 2 ^ (d + 1) + manyD d) (k := j) hj (by omega)
  rw [hu] at h1
  rw [runF_succ, hkj, hb, if_neg hbk, ← h1, ht]
theorem bit_int (b : Bool) : bitI b = (bitN b : Int) := by cases b <;> rfl
theorem impl_LoopRun0 (A : Option Addr) (c : Nat) (set : List Bool) (w : World) (hx : RdL bv w A 1 set) (hc : 1 ≤ c) :
    Calls Try.prog 28 #[.int .i64 2, .slice A 1 c] w (RetO iv 3 (runL 0 set) w) := by
  have HL := hx.len
  obtain ⟨b, off, t, rfl, HT, gt⟩ := hx.at (k := 0) (by omega)
  have HE : Hid (runL 0 set = [bitI t, IntKind.i64.wrap (1 - bitI t)]) := by
    show _ = _
    rw [IntWalk.i64_in (1 - bitI t) (by cases t <;> simp [bitI])]
    have := fS_at HT.out
    cases t <;> simp [runL, runF, List.range_succ, this, bitI]
  cases t with
  | false =>
    have gt' : w.cell? ⟨b, off, none⟩ = some (bv false) := by simpa using gt
    clear gt
    go_enter Try.func28, Try.ntmps28
    go_wp2_with (go_at_call 57; refine (impl_LoopMany 2 _).mono ?_; rintro e w1 ⟨rfl, m1, rfl⟩; rw [show lManyI 2 = 1 from rfl])
    go_region_held3 (fun w' => w'.cell? ⟨b, off, none⟩ = some (bv false)) (first | go_keep | assumption)
      ((go_at_call 58; (refine (impl_bit false _).mono ?_); rintro e w1 ⟨rfl, m1, rfl⟩))
    go_wp2_with fail
    go_ret
    exact ⟨_, _, _, rfl, by rw [HE.out]; exact OwnL.lit (w.drewN _) [bitI false, IntKind.i64.wrap (1 - bitI false)] (by simp [maxLen]) (Nat.le_refl _), (below_drewN (Below.refl _ _) _).alloc (Nat.le_refl _) _⟩
  | true =>
    have gt' : w.cell? ⟨b, off, none⟩ = some (bv true) := by simpa using gt
    clear gt
    go_enter Try.func28, Try.ntmps28
    go_wp2_with (go_at_call 57; refine (impl_LoopMany 2 _).mono ?_; rintro e w1 ⟨rfl, m1, rfl⟩; rw [show lManyI 2 = 1 from rfl])
    go_region_held3 (fun w' => w'.cell? ⟨b, off, none⟩ = some (bv true)) (first | go_keep | assumption)
      ((go_at_call 58; (refine (impl_bit true _).mono ?_); rintro e w1 ⟨rfl, m1, rfl⟩))
    go_wp2_with fail
    go_ret
    exact ⟨_, _, _, rfl, by rw [HE.out]; exact OwnL.lit (w.drewN _) [bitI true, IntKind.i64.wrap (1 - bitI true)] (by simp [maxLen]) (Nat.le_refl _), (below_drewN (Below.refl _ _) _).alloc (Nat.le_refl _) _⟩
theorem part_at {b off M : Nat} {set : List Bool} {w : World} (H I : Nat) (hx : RdL bv w (some ⟨b, off, none⟩) M set) (h : H + I ≤ M) : RdL bv w (some ⟨b, off + H, none⟩) I ((set.drop H).take I) := (hx.drop (k := H) (by omega)).take (by omega)
theorem i64_bit1 (u : Nat) (t : Bool) (h : u ≤ 8) : IntKind.i64.wrap (IntKind.i64.wrap (2 * (u : Int)) + bitI t) = ((2 * u + bitN t : Nat) : Int) := by
  rw [IntWalk.i64_in (2 * (u : Int)) (by omega), IntWalk.i64_in _ (by cases t <;> simp [bitI] <;> omega), bit_int]; simp
theorem i64_bit2 (u : Nat) (t : Bool) (h : u ≤ 8) : IntKind.i64.wrap (IntKind.i64.wrap (IntKind.i64.wrap (2 * (u : Int)) + 1) - bitI t) = ((2 * u + 1 - bitN t : Nat) : Int) := by
  rw [IntWalk.i64_in (2 * (u : Int)) (by omega), IntWalk.i64_in (2 * (u : Int) + 1) (by omega), IntWalk.i64_in _ (by cases t <;> simp [bitI] <;> omega), bit_int]; cases t <;> simp [bitN]
set_option maxHeartbeats 4000000 in
theorem impl_LoopRun1 (A : Option Addr) (c : Nat) (set : List Bool) (w : World) (hx : RdL bv w A 6 set) (hc : 6 ≤ c) :
    Calls Try.prog 28 #[.int .i64 4, .slice A 6 c] w (RetO iv 3 (runL 1 set) w) := by
  have HL := hx.len
  obtain ⟨b, off, t0, rfl, -, gt0⟩ := hx.at (k := 0) (by omega)
  have hbw : b < w.heap.size := World.block_lt_of_cell? _ _ gt0
  clear gt0
  have hmk : ∀ W : World, (Instr.makeSlice 25 (.int .i64 4) (.int .i64 4)).run Try.prog W = .ok (.slice (some ⟨W.heap.size, 0, none⟩) 4 4) (W.alloc (.cells (madeCells #[.int .i64 0] 4) 3)) := fun W => run_make_row' (P := Try.prog) 25 3 (.int .i64 0) 8 Try.underlying25 info_int rfl .i64 .i64 4 (by omega) (by omega) W
  go_enter Try.func28, Try.ntmps28
  go_wp2_with fail
  refine (impl_LoopMany 4 _).mono ?_
  rintro e w1 ⟨rfl, m1, rfl⟩
  rw [show lManyI 4 = 6 from rfl]
  go_wp2_with fail
  refine (impl_LoopMany 4 _).mono ?_
  rintro e w1 ⟨rfl, m1', rfl⟩
  rw [show lManyI 4 = 6 from rfl]
  go_wp2_with fail
  refine (impl_LoopMany 2 _).mono ?_
  rintro e w2 ⟨rfl, m2, rfl⟩
  rw [show lManyI 2 = 1 from rfl]
  go_wp2_with fail
  refine (impl_LoopRun0 _ _ ((set.drop 2).take 1) _ (part_at 2 1 (hx.drewN _) (by omega)) (by omega)).mono ?_
  rintro e w3 ⟨A3, n3, c3, rfl, O3, B3⟩
  have BW3 : Below w.heap.size w w3 := bstep (below_drewN (Below.refl _ _) _) B3
  go_wp2_with fail
  refine (impl_LoopRun0 _ _ ((set.drop 3).take 1) _ (part_at 3 1 (hx.below BW3 (Nat.le_refl _)) (by omega)) (by omega)).mono ?_
  rintro e w4 ⟨A4, n4, c4, rfl, O4, B4⟩
  have BW4 : Below w.heap.size w w4 := bstep BW3 B4
  have RU := (O3.below B4 (Nat.le_refl _)).rd
  have RL := O4.rd
  obtain rfl : n3 = 2 := by rw [← RU.len.out, runL_len]
  obtain rfl : n4 = 2 := by rw [← RL.len.out, runL_len]
  clear O3 O4
  go_wp2_with fail
  clear hmk
  go_loopg [68] 4 (fun g s68 wr => ∃ k : Nat, k ≤ 4 ∧ g = 4 - k ∧ s68 = .int .i64 k ∧ OwnL iv wr w.heap.size 3 (some ⟨w4.heap.size, 0, none⟩) 4 4 ((runL 1 set).take k ++ List.replicate (4 - k) 0) ∧ Below w4.heap.size w4 wr)
  case atStart => exact ⟨0, by omega, rfl, rfl, OwnL.made w4 0 4 (by simp [maxLen]) _ BW4.size, (Below.refl _ _).alloc (Nat.le_refl _) _⟩
  case round =>
    obtain ⟨k, hk, rfl, rfl, hown, hbel⟩ := hrel
    have BW : Below w.heap.size w wr := bstep BW4 hbel
    by_cases hlt : k < 4
    · obtain ⟨j, hkj⟩ : ∃ j, k / 2 = j := ⟨_, rfl⟩
      have hj : j < 2 := by omega
      have hkj2 : (k : Int) / 2 = (j : Int) := by omega
      obtain ⟨b0, off0, sb, hA, HB, gb⟩ := (hx.below BW (Nat.le_refl _)).at (k := j) (by omega)
      injection hA with hA; injection hA with hA1 hA2; subst hA1 hA2
      cases sb with
      | false =>
        rcases (by omega : k % 2 = 0 ∨ k % 2 = 1) with hkb | hkb
        · have hki : (k : Int) % 2 = 0 := by omega
          replace hkb := Lib.hid hkb
          obtain ⟨gu, offu, uz, rfl, HU, gcu4⟩ := RU.at hj
          have hgu : gu < w4.heap.size := World.block_lt_of_cell? _ _ gcu4
          have gcu : wr.cell? ⟨gu, offu + j, none⟩ = some (iv uz) := (hbel.cell (p := ⟨gu, offu + j, none⟩) hgu).trans gcu4
          clear gcu4
          obtain ⟨u, hu⟩ : ∃ u, runF 0 (fS ((set.drop 2).take 1)) j = u := ⟨_, rfl⟩
          have huz : uz = (u : Int) := by have h := HU.out; rw [runL_at (by simpa using hj), hu] at h; injection h with h; exact h.symm
          subst huz
          have hu8 : u < 2 := by have h := runF_lt 0 (fS ((set.drop 2).take 1)) j (by simpa using hj); rw [hu] at h; simpa using h
          obtain ⟨b', off', t, hA, HT, gt⟩ := (hx.below BW (Nat.le_refl _)).at (k := 4 + u) (by omega)
          injection hA with hA; injection hA with hA1 hA2; subst hA1 hA2
          have gt' : wr.cell? ⟨b, off + 4 + u, none⟩ = some (bv t) := by rw [Nat.add_assoc]; exact gt
          clear gt
          have HV : Hid (runF 1 (fS set) k = 2 * u + bitN t) := run_up (d := 0) (n := 4) (H := 2) (I := 1) (by simp) (by simp [manyD]) (by rw [HL.out]; omega) hj hkj hu (fS_at HB.out) (fS_at HT.out) (by rw [hkb.out]; simp [bitN])
          have hwr := i64_bit1 u t (by omega)
          rw [← HV.out] at hwr
          have hw4s := BW4.size
          have hu0 : (0 : Int) ≤ (u : Int) := Int.natCast_nonneg _
          have hu1 : (u : Int) < 2 := by omega
          have hj1 : (j : Int) < 2 := by omega
          have hj0 : (0 : Int) ≤ (j : Int) := Int.natCast_nonneg _
          have hk1 : (k : Int) < 4 := by omega
          have hk0 : (0 : Int) ≤ (k : Int) := Int.natCast_nonneg _
          obtain ⟨g', y, hA, hB', hg', HY, gc, gf⟩ := hown.at hlt
          injection hA with hA; injection hA with hA; subst hA
          clear HU
          go_wp2_with fail
          refine (impl_bit false _).mono ?_
          rintro e w5 ⟨rfl, m5, rfl⟩
          rw [show bitI false = 0 from rfl]
          go_wp2_with fail
          have gcu5 : (wr.drewN m5).drew.cell? ⟨gu, offu + j, none⟩ = some (iv u) := gcu
          go_region_held3 (fun w' => w'.cell? ⟨gu, offu + j, none⟩ = some (iv u) ∧ w'.cell? ⟨b, off + 4 + u, none⟩ = some (bv t))
            (first | go_keep | exact ⟨by assumption, by assumption⟩ | (refine ⟨?_, ?_⟩ <;> (rw [World.cell?_setCell_other _ _ _ _ (fun h => by injection h with h; omega)]; assumption)))
            ((go_at_call 58; (refine (impl_bit t _).mono ?_); rintro e w6 ⟨rfl, m6, rfl⟩))
          go_wp2_with fail
          go_roundg (4 - (k + 1))
          case rel => exact ⟨k + 1, by omega, rfl, by go_num, by rw [← set_fill (runL_len 1 set) (by simpa using hlt) (runL_at (by simpa using hlt))]; exact OwnL.set (hown.drewN _) k _, (below_drewN hbel _).setCell (Nat.le_refl _) _⟩
          case measure => omega
        · have hki : (k : Int) % 2 = 1 := by omega
          replace hkb := Lib.hid hkb
          obtain ⟨gu, offu, uz, rfl, HU, gcu4⟩ := RL.at hj
          have hgu : gu < w4.heap.size := World.block_lt_of_cell? _ _ gcu4
          have gcu : wr.cell? ⟨gu, offu + j, none⟩ = some (iv uz) := (hbel.cell (p := ⟨gu, offu + j, none⟩) hgu).trans gcu4
          clear gcu4
          obtain ⟨u, hu⟩ : ∃ u, runF 0 (fS ((set.drop 3).take 1)) j = u := ⟨_, rfl⟩
          have huz : uz = (u : Int) := by have h := HU.out; rw [runL_at (by simpa using hj), hu] at h; injection h with h; exact h.symm
          subst huz
          have hu8 : u < 2 := by have h := runF_lt 0 (fS ((set.drop 3).take 1)) j (by simpa using hj); rw [hu] at h; simpa using h
          obtain ⟨b', off', t, hA, HT, gt⟩ := (hx.below BW (Nat.le_refl _)).at (k := 4 + u) (by omega)
          injection hA with hA; injection hA with hA1 hA2; subst hA1 hA2
          have gt' : wr.cell? ⟨b, off + 4 + u, none⟩ = some (bv t) := by rw [Nat.add_assoc]; exact gt
          clear gt
          have HV : Hid (runF 1 (fS set) k = 2 * u + 1 - bitN t) := run_lo (d := 0) (n := 4) (H := 2) (I := 1) (by simp) (by simp [manyD]) (by rw [HL.out]; omega) hj hkj hu (fS_at HB.out) (fS_at HT.out) (by rw [hkb.out]; simp [bitN])
          have hwr := i64_bit2 u t (by omega)
          rw [← HV.out] at hwr
          have hw4s := BW4.size
          have hu0 : (0 : Int) ≤ (u : Int) := Int.natCast_nonneg _
          have hu1 : (u : Int) < 2 := by omega
          have hj1 : (j : Int) < 2 := by omega
          have hj0 : (0 : Int) ≤ (j : Int) := Int.natCast_nonneg _
          have hk1 : (k : Int) < 4 := by omega
          have hk0 : (0 : Int) ≤ (k : Int) := Int.natCast_nonneg _
          obtain ⟨g', y, hA, hB', hg', HY, gc, gf⟩ := hown.at hlt
          injection hA with hA; injection hA with hA; subst hA
          clear HU
          go_wp2_with fail
          refine (impl_bit false _).mono ?_
          rintro e w5 ⟨rfl, m5, rfl⟩
          rw [show bitI false = 0 from rfl]
          go_wp2_with fail
          have gcu5 : (wr.drewN m5).drew.cell? ⟨gu, offu + j, none⟩ = some (iv u) := gcu
          go_region_held3 (fun w' => w'.cell? ⟨gu, offu + j, none⟩ = some (iv u) ∧ w'.cell? ⟨b, off + 4 + u, none⟩ = some (bv t))
            (first | go_keep | exact ⟨by assumption, by assumption⟩ | (refine ⟨?_, ?_⟩ <;> (rw [World.cell?_setCell_other _ _ _ _ (fun h => by injection h with h; omega)]; assumption)))
            ((go_at_call 58; (refine (impl_bit t _).mono ?_); rintro e w6 ⟨rfl, m6, rfl⟩))
          go_wp2_with fail
          go_roundg (4 - (k + 1))
          case rel => exact ⟨k + 1, by omega, rfl, by go_num, by rw [← set_fill (runL_len 1 set) (by simpa using hlt) (runL_at (by simpa using hlt))]; exact OwnL.set (hown.drewN _) k _, (below_drewN hbel _).setCell (Nat.le_refl _) _⟩
          case measure => omega
      | true =>
        rcases (by omega : k % 2 = 0 ∨ k % 2 = 1) with hkb | hkb
        · have hki : (k : Int) % 2 = 0 := by omega
          replace hkb := Lib.hid hkb
          obtain ⟨gu, offu, uz, rfl, HU, gcu4⟩ := RL.at hj
          have hgu : gu < w4.heap.size := World.block_lt_of_cell? _ _ gcu4
          have gcu : wr.cell? ⟨gu, offu + j, none⟩ = some (iv uz) := (hbel.cell (p := ⟨gu, offu + j, none⟩) hgu).trans gcu4
          clear gcu4
          obtain ⟨u, hu⟩ : ∃ u, runF 0 (fS ((set.drop 3).take 1)) j = u := ⟨_, rfl⟩
          have huz : uz = (u : Int) := by have h := HU.out; rw [runL_at (by simpa using hj), hu] at h; injection h with h; exact h.symm
          subst huz
          have hu8 : u < 2 := by have h := runF_lt 0 (fS ((set.drop 3).take 1)) j (by simpa using hj); rw [hu] at h; simpa using h
          obtain ⟨b', off', t, hA, HT, gt⟩ := (hx.below BW (Nat.le_refl _)).at (k := 4 + u) (by omega)
          injection hA with hA; injection hA with hA1 hA2; subst hA1 hA2
          have gt' : wr.cell? ⟨b, off + 4 + u, none⟩ = some (bv t) := by rw [Nat.add_assoc]; exact gt
          clear gt
          have HV : Hid (runF 1 (fS set) k = 2 * u + 1 - bitN t) := run_lo (d := 0) (n := 4) (H := 2) (I := 1) (by simp) (by simp [manyD]) (by rw [HL.out]; omega) hj hkj hu (fS_at HB.out) (fS_at HT.out) (by rw [hkb.out]; simp [bitN])
          have hwr := i64_bit2 u t (by omega)
          rw [← HV.out] at hwr
          have hw4s := BW4.size
          have hu0 : (0 : Int) ≤ (u : Int) := Int.natCast_nonneg _
          have hu1 : (u : Int) < 2 := by omega
          have hj1 : (j : Int) < 2 := by omega
          have hj0 : (0 : Int) ≤ (j : Int) := Int.natCast_nonneg _
          have hk1 : (k : Int) < 4 := by omega
          have hk0 : (0 : Int) ≤ (k : Int) := Int.natCast_nonneg _
          obtain ⟨g', y, hA, hB', hg', HY, gc, gf⟩ := hown.at hlt
          injection hA with hA; injection hA with hA; subst hA
          clear HU
          go_wp2_with fail
          refine (impl_bit true _).mono ?_
          rintro e w5 ⟨rfl, m5, rfl⟩
          rw [show bitI true = 1 from rfl]
          go_wp2_with fail
          have gcu5 : (wr.drewN m5).drew.cell? ⟨gu, offu + j, none⟩ = some (iv u) := gcu
          go_region_held3 (fun w' => w'.cell? ⟨gu, offu + j, none⟩ = some (iv u) ∧ w'.cell? ⟨b, off + 4 + u, none⟩ = some (bv t))
            (first | go_keep | exact ⟨by assumption, by assumption⟩ | (refine ⟨?_, ?_⟩ <;> (rw [World.cell?_setCell_other _ _ _ _ (fun h => by injection h with h; omega)]; assumption)))
            ((go_at_call 58; (refine (impl_bit t _).mono ?_); rintro e w6 ⟨rfl, m6, rfl⟩))
          go_wp2_with fail
          go_roundg (4 - (k + 1))
          case rel => exact ⟨k + 1, by omega, rfl, by go_num, by rw [← set_fill (runL_len 1 set) (by simpa using hlt) (runL_at (by simpa using hlt))]; exact OwnL.set (hown.drewN _) k _, (below_drewN hbel _).setCell (Nat.le_refl _) _⟩
          case measure => omega
        · have hki : (k : Int) % 2 = 1 := by omega
          replace hkb := Lib.hid hkb
          obtain ⟨gu, offu, uz, rfl, HU, gcu4⟩ := RU.at hj
          have hgu : gu < w4.heap.size := World.block_lt_of_cell? _ _ gcu4
          have gcu : wr.cell? ⟨gu, offu + j, none⟩ = some (iv uz) := (hbel.cell (p := ⟨gu, offu + j, none⟩) hgu).trans gcu4
          clear gcu4
          obtain ⟨u, hu⟩ : ∃ u, runF 0 (fS ((set.drop 2).take 1)) j = u := ⟨_, rfl⟩
          have huz : uz = (u : Int) := by have h := HU.out; rw [runL_at (by simpa using hj), hu] at h; injection h with h; exact h.symm
          subst huz
          have hu8 : u < 2 := by have h := runF_lt 0 (fS ((set.drop 2).take 1)) j (by simpa using hj); rw [hu] at h; simpa using h
          obtain ⟨b', off', t, hA, HT, gt⟩ := (hx.below BW (Nat.le_refl _)).at (k := 4 + u) (by omega)
          injection hA with hA; injection hA with hA1 hA2; subst hA1 hA2
          have gt' : wr.cell? ⟨b, off + 4 + u, none⟩ = some (bv t) := by rw [Nat.add_assoc]; exact gt
          clear gt
          have HV : Hid (runF 1 (fS set) k = 2 * u + bitN t) := run_up (d := 0) (n := 4) (H := 2) (I := 1) (by simp) (by simp [manyD]) (by rw [HL.out]; omega) hj hkj hu (fS_at HB.out) (fS_at HT.out) (by rw [hkb.out]; simp [bitN])
          have hwr := i64_bit1 u t (by omega)
          rw [← HV.out] at hwr
          have hw4s := BW4.size
          have hu0 : (0 : Int) ≤ (u : Int) := Int.natCast_nonneg _
          have hu1 : (u : Int) < 2 := by omega
          have hj1 : (j : Int) < 2 := by omega
          have hj0 : (0 : Int) ≤ (j : Int) := Int.natCast_nonneg _
          have hk1 : (k : Int) < 4 := by omega
          have hk0 : (0 : Int) ≤ (k : Int) := Int.natCast_nonneg _
          obtain ⟨g', y, hA, hB', hg', HY, gc, gf⟩ := hown.at hlt
          injection hA with hA; injection hA with hA; subst hA
          clear HU
          go_wp2_with fail
          refine (impl_bit true _).mono ?_
          rintro e w5 ⟨rfl, m5, rfl⟩
          rw [show bitI true = 1 from rfl]
          go_wp2_with fail
          have gcu5 : (wr.drewN m5).drew.cell? ⟨gu, offu + j, none⟩ = some (iv u) := gcu
          go_region_held3 (fun w' => w'.cell? ⟨gu, offu + j, none⟩ = some (iv u) ∧ w'.cell? ⟨b, off + 4 + u, none⟩ = some (bv t))
            (first | go_keep | exact ⟨by assumption, by assumption⟩ | (refine ⟨?_, ?_⟩ <;> (rw [World.cell?_setCell_other _ _ _ _ (fun h => by injection h with h; omega)]; assumption)))
            ((go_at_call 58; (refine (impl_bit t _).mono ?_); rintro e w6 ⟨rfl, m6, rfl⟩))
          go_wp2_with fail
          go_roundg (4 - (k + 1))
          case rel => exact ⟨k + 1, by omega, rfl, by go_num, by rw [← set_fill (runL_len 1 set) (by simpa using hlt) (runL_at (by simpa using hlt))]; exact OwnL.set (hown.drewN _) k _, (below_drewN hbel _).setCell (Nat.le_refl _) _⟩
          case measure => omega
    · go_wp2_with fail
      go_ret
      obtain rfl : k = 4 := by omega
      rw [Nat.sub_self, List.take_of_length_le (by rw [runL_len]; simp)] at hown
      exact ⟨_, _, _, rfl, by simpa using hown, bstep BW4 hbel⟩
set_option maxHeartbeats 4000000 in
theorem impl_LoopRun2 (A : Option Addr) (c : Nat) (set : List Bool) (w : World) (hx : RdL bv w A 20 set) (hc : 20 ≤ c) :
    Calls Try.prog 28 #[.int .i64 8, .slice A 20 c] w (RetO iv 3 (runL 2 set) w) := by
  have HL := hx.len
  obtain ⟨b, off, t0, rfl, -, gt0⟩ := hx.at (k := 0) (by omega)
  have hbw : b < w.heap.size := World.block_lt_of_cell? _ _ gt0
  clear gt0
  have hmk : ∀ W : World, (Instr.makeSlice 25 (.int .i64 8) (.int .i64 8)).run Try.prog W = .ok (.slice (some ⟨W.heap.size, 0, none⟩) 8 8) (W.alloc (.cells (madeCells #[.int .i64 0] 8) 3)) := fun W => run_make_row' (P := Try.prog) 25 3 (.int .i64 0) 8 Try.underlying25 info_int rfl .i64 .i64 8 (by omega) (by omega) W
  go_enter Try.func28, Try.ntmps28
  go_wp2_with fail
  refine (impl_LoopMany 8 _).mono ?_
  rintro e w1 ⟨rfl, m1, rfl⟩
  rw [show lManyI 8 = 20 from rfl]
  go_wp2_with fail
  refine (impl_LoopMany 8 _).mono ?_
  rintro e w1 ⟨rfl, m1', rfl⟩
  rw [show lManyI 8 = 20 from rfl]
  go_wp2_with fail
  refine (impl_LoopMany 4 _).mono ?_
  rintro e w2 ⟨rfl, m2, rfl⟩
  rw [show lManyI 4 = 6 from rfl]
  go_wp2_with fail
  refine (impl_LoopRun1 _ _ ((set.drop 4).take 6) _ (part_at 4 6 (hx.drewN _) (by omega)) (by omega)).mono ?_
  rintro e w3 ⟨A3, n3, c3, rfl, O3, B3⟩
  have BW3 : Below w.heap.size w w3 := bstep (below_drewN (Below.refl _ _) _) B3
  go_wp2_with fail
  refine (impl_LoopRun1 _ _ ((set.drop 10).take 6) _ (part_at 10 6 (hx.below BW3 (Nat.le_refl _)) (by omega)) (by omega)).mono ?_
  rintro e w4 ⟨A4, n4, c4, rfl, O4, B4⟩
  have BW4 : Below w.heap.size w w4 := bstep BW3 B4
  have RU := (O3.below B4 (Nat.le_refl _)).rd
  have RL := O4.rd
  obtain rfl : n3 = 4 := by rw [← RU.len.out, runL_len]
  obtain rfl : n4 = 4 := by rw [← RL.len.out, runL_len]
  clear O3 O4
  go_wp2_with fail
  clear hmk
  go_loopg [68] 8 (fun g s68 wr => ∃ k : Nat, k ≤ 8 ∧ g = 8 - k ∧ s68 = .int .i64 k ∧ OwnL iv wr w.heap.size 3 (some ⟨w4.heap.size, 0, none⟩) 8 8 ((runL 2 set).take k ++ List.replicate (8 - k) 0) ∧ Below w4.heap.size w4 wr)
  case atStart => exact ⟨0, by omega, rfl, rfl, OwnL.made w4 0 8 (by simp [maxLen]) _ BW4.size, (Below.refl _ _).alloc (Nat.le_refl _) _⟩
  case round =>
    obtain ⟨k, hk, rfl, rfl, hown, hbel⟩ := hrel
    have BW : Below w.heap.size w wr := bstep BW4 hbel
    by_cases hlt : k < 8
    · obtain ⟨j, hkj⟩ : ∃ j, k / 2 = j := ⟨_, rfl⟩
      have hj : j < 4 := by omega
      have hkj2 : (k : Int) / 2 = (j : Int) := by omega
      obtain ⟨b0, off0, sb, hA, HB, gb⟩ := (hx.below BW (Nat.le_refl _)).at (k := j) (by omega)
      injection hA with hA; injection hA with hA1 hA2; subst hA1 hA2
      cases sb with
      | false =>
        rcases (by omega : k % 2 = 0 ∨ k % 2 = 1) with hkb | hkb
        · have hki : (k : Int) % 2 = 0 := by omega
          replace hkb := Lib.hid hkb
          obtain ⟨gu, offu, uz, rfl, HU, gcu4⟩ := RU.at hj
          have hgu : gu < w4.heap.size := World.block_lt_of_cell? _ _ gcu4
          have gcu : wr.cell? ⟨gu, offu + j, none⟩ = some (iv uz) := (hbel.cell (p := ⟨gu, offu + j, none⟩) hgu).trans gcu4
          clear gcu4
          obtain ⟨u, hu⟩ : ∃ u, runF 1 (fS ((set.drop 4).take 6)) j = u := ⟨_, rfl⟩
          have huz : uz = (u : Int) := by have h := HU.out; rw [runL_at (by simpa using hj), hu] at h; injection h with h; exact h.symm
          subst huz
          have hu8 : u < 4 := by have h := runF_lt 1 (fS ((set.drop 4).take 6)) j (by simpa using hj); rw [hu] at h; simpa using h
          obtain ⟨b', off', t, hA, HT, gt⟩ := (hx.below BW (Nat.le_refl _)).at (k := 16 + u) (by omega)
          injection hA with hA; injection hA with hA1 hA2; subst hA1 hA2
          have gt' : wr.cell? ⟨b, off + 16 + u, none⟩ = some (bv t) := by rw [Nat.add_assoc]; exact gt
          clear gt
          have HV : Hid (runF 2 (fS set) k = 2 * u + bitN t) := run_up (d := 1) (n := 8) (H := 4) (I := 6) (by simp) (by simp [manyD]) (by rw [HL.out]; omega) hj hkj hu (fS_at HB.out) (fS_at HT.out) (by rw [hkb.out]; simp [bitN])
          have hwr := i64_bit1 u t (by omega)
          rw [← HV.out] at hwr
          have hw4s := BW4.size
          have hu0 : (0 : Int) ≤ (u : Int) := Int.natCast_nonneg _
          have hu1 : (u : Int) < 4 := by omega
          have hj1 : (j : Int) < 4 := by omega
          have hj0 : (0 : Int) ≤ (j : Int) := Int.natCast_nonneg _
          have hk1 : (k : Int) < 8 := by omega
          have hk0 : (0 : Int) ≤ (k : Int) := Int.natCast_nonneg _
          obtain ⟨g', y, hA, hB', hg', HY, gc, gf⟩ := hown.at hlt
          injection hA with hA; injection hA with hA; subst hA
          clear HU
          go_wp2_with fail
          refine (impl_bit false _).mono ?_
          rintro e w5 ⟨rfl, m5, rfl⟩
          rw [show bitI false = 0 from rfl]
          go_wp2_with fail
          have gcu5 : (wr.drewN m5).drew.cell? ⟨gu, offu + j, none⟩ = some (iv u) := gcu
          go_region_held3 (fun w' => w'.cell? ⟨gu, offu + j, none⟩ = some (iv u) ∧ w'.cell? ⟨b, off + 16 + u, none⟩ = some (bv t))
            (first | go_keep | exact ⟨by assumption, by assumption⟩ | (refine ⟨?_, ?_⟩ <;> (rw [World.cell?_setCell_other _ _ _ _ (fun h => by injection h with h; omega)]; assumption)))
            ((go_at_call 58; (refine (impl_bit t _).mono ?_); rintro e w6 ⟨rfl, m6, rfl⟩))
          go_wp2_with fail
          go_roundg (8 - (k + 1))
          case rel => exact ⟨k + 1, by omega, rfl, by go_num, by rw [← set_fill (runL_len 2 set) (by simpa using hlt) (runL_at (by simpa using hlt))]; exact OwnL.set (hown.drewN _) k _, (below_drewN hbel _).setCell (Nat.le_refl _) _⟩
          case measure => omega
        · have hki : (k : Int) % 2 = 1 := by omega
          replace hkb := Lib.hid hkb
          obtain ⟨gu, offu, uz, rfl, HU, gcu4⟩ := RL.at hj
          have hgu : gu < w4.heap.size := World.block_lt_of_cell? _ _ gcu4
          have gcu : wr.cell? ⟨gu, offu + j, none⟩ = some (iv uz) := (hbel.cell (p := ⟨gu, offu + j, none⟩) hgu).trans gcu4
          clear gcu4
          obtain ⟨u, hu⟩ : ∃ u, runF 1 (fS ((set.drop 10).take 6)) j = u := ⟨_, rfl⟩
          have huz : uz = (u : Int) := by have h := HU.out; rw [runL_at (by simpa using hj), hu] at h; injection h with h; exact h.symm
          subst huz
          have hu8 : u < 4 := by have h := runF_lt 1 (fS ((set.drop 10).take 6)) j (by simpa using hj); rw [hu] at h; simpa using h
          obtain ⟨b', off', t, hA, HT, gt⟩ := (hx.below BW (Nat.le_refl _)).at (k := 16 + u) (by omega)
          injection hA with hA; injection hA with hA1 hA2; subst hA1 hA2
          have gt' : wr.cell? ⟨b, off + 16 + u, none⟩ = some (bv t) := by rw [Nat.add_assoc]; exact gt
          clear gt
          have HV : Hid (runF 2 (fS set) k = 2 * u + 1 - bitN t) := run_lo (d := 1) (n := 8) (H := 4) (I := 6) (by simp) (by simp [manyD]) (by rw [HL.out]; omega) hj hkj hu (fS_at HB.out) (fS_at HT.out) (by rw [hkb.out]; simp [bitN])
          have hwr := i64_bit2 u t (by omega)
          rw [← HV.out] at hwr
          have hw4s := BW4.size
          have hu0 : (0 : Int) ≤ (u : Int) := Int.natCast_nonneg _
          have hu1 : (u : Int) < 4 := by omega
          have hj1 : (j : Int) < 4 := by omega
          have hj0 : (0 : Int) ≤ (j : Int) := Int.natCast_nonneg _
          have hk1 : (k : Int) < 8 := by omega
          have hk0 : (0 : Int) ≤ (k : Int) := Int.natCast_nonneg _
          obtain ⟨g', y, hA, hB', hg', HY, gc, gf⟩ := hown.at hlt
          injection hA with hA; injection hA with hA; subst hA
          clear HU
          go_wp2_with fail
          refine (impl_bit false _).mono ?_
          rintro e w5 ⟨rfl, m5, rfl⟩
          rw [show bitI false = 0 from rfl]
          go_wp2_with fail
          have gcu5 : (wr.drewN m5).drew.cell? ⟨gu, offu + j, none⟩ = some (iv u) := gcu
          go_region_held3 (fun w' => w'.cell? ⟨gu, offu + j, none⟩ = some (iv u) ∧ w'.cell? ⟨b, off + 16 + u, none⟩ = some (bv t))
            (first | go_keep | exact ⟨by assumption, by assumption⟩ | (refine ⟨?_, ?_⟩ <;> (rw [World.cell?_setCell_other _ _ _ _ (fun h => by injection h with h; omega)]; assumption)))
            ((go_at_call 58; (refine (impl_bit t _).mono ?_); rintro e w6 ⟨rfl, m6, rfl⟩))
          go_wp2_with fail
          go_roundg (8 - (k + 1))
          case rel => exact ⟨k + 1, by omega, rfl, by go_num, by rw [← set_fill (runL_len 2 set) (by simpa using hlt) (runL_at (by simpa using hlt))]; exact OwnL.set (hown.drewN _) k _, (below_drewN hbel _).setCell (Nat.le_refl _) _⟩
          case measure => omega
      | true =>
        rcases (by omega : k % 2 = 0 ∨ k % 2 = 1) with hkb | hkb
        · have hki : (k : Int) % 2 = 0 := by omega
          replace hkb := Lib.hid hkb
          obtain ⟨gu, offu, uz, rfl, HU, gcu4⟩ := RL.at hj
          have hgu : gu < w4.heap.size := World.block_lt_of_cell? _ _ gcu4
          have gcu : wr.cell? ⟨gu, offu + j, none⟩ = some (iv uz) := (hbel.cell (p := ⟨gu, offu + j, none⟩) hgu).trans gcu4
          clear gcu4
          obtain ⟨u, hu⟩ : ∃ u, runF 1 (fS ((set.drop 10).take 6)) j = u := ⟨_, rfl⟩
          have huz : uz = (u : Int) := by have h := HU.out; rw [runL_at (by simpa using hj), hu] at h; injection h with h; exact h.symm
          subst huz
          have hu8 : u < 4 := by have h := runF_lt 1 (fS ((set.drop 10).take 6)) j (by simpa using hj); rw [hu] at h; simpa using h
          obtain ⟨b', off', t, hA, HT, gt⟩ := (hx.below BW (Nat.le_refl _)).at (k := 16 + u) (by omega)
          injection hA with hA; injection hA with hA1 hA2; subst hA1 hA2
          have gt' : wr.cell? ⟨b, off + 16 + u, none⟩ = some (bv t) := by rw [Nat.add_assoc]; exact gt
          clear gt
          have HV : Hid (runF 2 (fS set) k = 2 * u + 1 - bitN t) := run_lo (d := 1) (n := 8) (H := 4) (I := 6) (by simp) (by simp [manyD]) (by rw [HL.out]; omega) hj hkj hu (fS_at HB.out) (fS_at HT.out) (by rw [hkb.out]; simp [bitN])
          have hwr := i64_bit2 u t (by omega)
          rw [← HV.out] at hwr
          have hw4s := BW4.size
          have hu0 : (0 : Int) ≤ (u : Int) := Int.natCast_nonneg _
          have hu1 : (u : Int) < 4 := by omega
          have hj1 : (j : Int) < 4 := by omega
          have hj0 : (0 : Int) ≤ (j : Int) := Int.natCast_nonneg _
          have hk1 : (k : Int) < 8 := by omega
          have hk0 : (0 : Int) ≤ (k : Int) := Int.natCast_nonneg _
          obtain ⟨g', y, hA, hB', hg', HY, gc, gf⟩ := hown.at hlt
          injection hA with hA; injection hA with hA; subst hA
          clear HU
          go_wp2_with fail
          refine (impl_bit true _).mono ?_
          rintro e w5 ⟨rfl, m5, rfl⟩
          rw [show bitI true = 1 from rfl]
          go_wp2_with fail
          have gcu5 : (wr.drewN m5).drew.cell? ⟨gu, offu + j, none⟩ = some (iv u) := gcu
          go_region_held3 (fun w' => w'.cell? ⟨gu, offu + j, none⟩ = some (iv u) ∧ w'.cell? ⟨b, off + 16 + u, none⟩ = some (bv t))
            (first | go_keep | exact ⟨by assumption, by assumption⟩ | (refine ⟨?_, ?_⟩ <;> (rw [World.cell?_setCell_other _ _ _ _ (fun h => by injection h with h; omega)]; assumption)))
            ((go_at_call 58; (refine (impl_bit t _).mono ?_); rintro e w6 ⟨rfl, m6, rfl⟩))
          go_wp2_with fail
          go_roundg (8 - (k + 1))
          case rel => exact ⟨k + 1, by omega, rfl, by go_num, by rw [← set_fill (runL_len 2 set) (by simpa using hlt) (runL_at (by simpa using hlt))]; exact OwnL.set (hown.drewN _) k _, (below_drewN hbel _).setCell (Nat.le_refl _) _⟩
          case measure => omega
        · have hki : (k : Int) % 2 = 1 := by omega
          replace hkb := Lib.hid hkb
          obtain ⟨gu, offu, uz, rfl, HU, gcu4⟩ := RU.at hj
          have hgu : gu < w4.heap.size := World.block_lt_of_cell? _ _ gcu4
          have gcu : wr.cell? ⟨gu, offu + j, none⟩ = some (iv uz) := (hbel.cell (p := ⟨gu, offu + j, none⟩) hgu).trans gcu4
          clear gcu4
          obtain ⟨u, hu⟩ : ∃ u, runF 1 (fS ((set.drop 4).take 6)) j = u := ⟨_, rfl⟩
          have huz : uz = (u : Int) := by have h := HU.out; rw [runL_at (by simpa using hj), hu] at h; injection h with h; exact h.symm
          subst huz
          have hu8 : u < 4 := by have h := runF_lt 1 (fS ((set.drop 4).take 6)) j (by simpa using hj); rw [hu] at h; simpa using h
          obtain ⟨b', off', t, hA, HT, gt⟩ := (hx.below BW (Nat.le_refl _)).at (k := 16 + u) (by omega)
          injection hA with hA; injection hA with hA1 hA2; subst hA1 hA2
          have gt' : wr.cell? ⟨b, off + 16 + u, none⟩ = some (bv t) := by rw [Nat.add_assoc]; exact gt
          clear gt
          have HV : Hid (runF 2 (fS set) k = 2 * u + bitN t) := run_up (d := 1) (n := 8) (H := 4) (I := 6) (by simp) (by simp [manyD]) (by rw [HL.out]; omega) hj hkj hu (fS_at HB.out) (fS_at HT.out) (by rw [hkb.out]; simp [bitN])
          have hwr := i64_bit1 u t (by omega)
          rw [← HV.out] at hwr
          have hw4s := BW4.size
          have hu0 : (0 : Int) ≤ (u : Int) := Int.natCast_nonneg _
          have hu1 : (u : Int) < 4 := by omega
          have hj1 : (j : Int) < 4 := by omega
          have hj0 : (0 : Int) ≤ (j : Int) := Int.natCast_nonneg _
          have hk1 : (k : Int) < 8 := by omega
          have hk0 : (0 : Int) ≤ (k : Int) := Int.natCast_nonneg _
          obtain ⟨g', y, hA, hB', hg', HY, gc, gf⟩ := hown.at hlt
          injection hA with hA; injection hA with hA; subst hA
          clear HU
          go_wp2_with fail
          refine (impl_bit true _).mono ?_
          rintro e w5 ⟨rfl, m5, rfl⟩
          rw [show bitI true = 1 from rfl]
          go_wp2_with fail
          have gcu5 : (wr.drewN m5).drew.cell? ⟨gu, offu + j, none⟩ = some (iv u) := gcu
          go_region_held3 (fun w' => w'.cell? ⟨gu, offu + j, none⟩ = some (iv u) ∧ w'.cell? ⟨b, off + 16 + u, none⟩ = some (bv t))
            (first | go_keep | exact ⟨by assumption, by assumption⟩ | (refine ⟨?_, ?_⟩ <;> (rw [World.cell?_setCell_other _ _ _ _ (fun h => by injection h with h; omega)]; assumption)))
            ((go_at_call 58; (refine (impl_bit t _).mono ?_); rintro e w6 ⟨rfl, m6, rfl⟩))
          go_wp2_with fail
          go_roundg (8 - (k + 1))
          case rel => exact ⟨k + 1, by omega, rfl, by go_num, by rw [← set_fill (runL_len 2 set) (by simpa using hlt) (runL_at (by simpa using hlt))]; exact OwnL.set (hown.drewN _) k _, (below_drewN hbel _).setCell (Nat.le_refl _) _⟩
          case measure => omega
    · go_wp2_with fail
      go_ret
      obtain rfl : k = 8 := by omega
      rw [Nat.sub_self, List.take_of_length_le (by rw [runL_len]; simp)] at hown
      exact ⟨_, _, _, rfl, by simpa using hown, bstep BW4 hbel⟩
def lvOf (l : Int) : Nat := if l = 2 then 0 else if l = 4 then 1 else 2
open Classical in
noncomputable def loopRunL (l : Int) (set : List Bool) : List Int := if lManyI l = (set.length : Int) then runL (lvOf l) set else []
theorem lr_no {l : Int} {set : List Bool} (h : ¬ lManyI l = (set.length : Int)) : loopRunL l set = [] := by unfold loopRunL; rw [if_neg h]
theorem lr_yes {l : Int} {set : List Bool} (h : lManyI l = (set.length : Int)) : loopRunL l set = runL (lvOf l) set := by unfold loopRunL; rw [if_pos h]
theorem lr_len (l : Int) (set : List Bool) : ∀ (h : set.length ≤ 1048576), (loopRunL l set).length ≤ 1048576 := fun h => by
  by_cases hl : lManyI l = (set.length : Int)
  · rw [lr_yes hl, runL_len]
    have : lvOf l = 0 ∨ lvOf l = 1 ∨ lvOf l = 2 := by
      unfold lvOf
      by_cases h2 : l = 2
      · rw [if_pos h2]; exact .inl rfl
      · rw [if_neg h2]
        by_cases h4 : l = 4
        · rw [if_pos h4]; exact .inr (.inl rfl)
        · rw [if_neg h4]; exact .inr (.inr rfl)
    rcases this with h | h | h <;> rw [h] <;> simp
  · rw [lr_no hl]; simp
theorem many_cases (l : Int) : lManyI l = -1 ∨ (l = 2 ∧ lManyI l = 1) ∨ (l = 4 ∧ lManyI l = 6) ∨ (l = 8 ∧ lManyI l = 20) := by
  by_cases h2 : l = 2
  · subst h2; exact .inr (.inl ⟨rfl, rfl⟩)
  · by_cases h4 : l = 4
    · subst h4; exact .inr (.inr (.inl ⟨rfl, rfl⟩))
    · by_cases h8 : l = 8
      · subst h8; exact .inr (.inr (.inr ⟨rfl, rfl⟩))
      · left; simp [lManyI, h2, h4, h8]
theorem impl_LoopRun_no (l : Int) (A : Option Addr) (m c : Nat) (set : List Bool) (w : World) (hx : RdL bv w A m set) (hno : ¬ lManyI l = (set.length : Int)) :
    Calls Try.prog 28 #[.int .i64 l, .slice A m c] w (RetO iv 3 (loopRunL l set) w) := by
  have HE := Lib.hid (lr_no hno)
  have HL := hx.len
  obtain ⟨V, HV⟩ : ∃ V, Hid (lManyI l = V) := ⟨_, rfl⟩
  have hvm : ¬ V = (m : Int) := by rw [← HV.out, ← HL.out]; exact hno
  clear hno
  by_cases h0 : V < 0
  · have z0 : decide (V < 0) = true := decide_eq_true h0
    go_enter Try.func28, Try.ntmps28
    go_wp2_with fail
    refine (impl_LoopMany l _).mono ?_
    rintro e w1 ⟨rfl, m1, rfl⟩
    rw [HV.out]
    go_wp2_with fail
    go_ret
    exact ⟨_, _, _, rfl, by rw [HE.out]; exact OwnL.nil, below_drewN (Below.refl _ _) _⟩
  · have z0 : decide (V < 0) = false := decide_eq_false h0
    have z1 : ((m : Int) != V) = true := by simp; omega
    go_enter Try.func28, Try.ntmps28
    go_wp2_with fail
    refine (impl_LoopMany l _).mono ?_
    rintro e w1 ⟨rfl, m1, rfl⟩
    rw [HV.out]
    go_wp2_with fail
    refine (impl_LoopMany l _).mono ?_
    rintro e w1 ⟨rfl, m2, rfl⟩
    rw [HV.out]
    go_wp2_with fail
    go_ret
    exact ⟨_, _, _, rfl, by rw [HE.out]; exact OwnL.nil, below_drewN (Below.refl _ _) _⟩
theorem impl_LoopRun (l : Int) (A : Option Addr) (m c : Nat) (set : List Bool) (w : World) (hx : RdL bv w A m set) (hc : m ≤ c) (hm : m ≤ 1048576) :
    Calls Try.prog 28 #[.int .i64 l, .slice A m c] w (RetO iv 3 (loopRunL l set) w) := by
  by_cases h : lManyI l = (set.length : Int)
  · have hl := hx.len.out
    rw [lr_yes h]
    rcases many_cases l with h1 | ⟨rfl, h1⟩ | ⟨rfl, h1⟩ | ⟨rfl, h1⟩
    · omega
    · obtain rfl : m = 1 := by omega
      exact impl_LoopRun0 A c set w hx hc
    · obtain rfl : m = 6 := by omega
      exact impl_LoopRun1 A c set w hx hc
    · obtain rfl : m = 20 := by omega
      exact impl_LoopRun2 A c set w hx hc
  · exact impl_LoopRun_no l A m c set w hx h
end Go.Proofs.Ytiahpaakkijejaa
