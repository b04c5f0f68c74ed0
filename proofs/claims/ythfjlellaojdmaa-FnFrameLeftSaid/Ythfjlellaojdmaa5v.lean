/- addTables and FrameBest of the program. Condition: tables of at most 1048576 numbers. -/
import Derived.Test.Ythfjlellaojdmaa5w3
namespace Go.Proofs.Ythfjlellaojdmaa
open Go.RowKit
set_option linter.unusedSimpArgs false
set_option linter.unusedVariables false
/-- The sum, as far as it is reckoned. -/
def addTo (L X : Nat → Nat → Int) (k j a b : Nat) : Int := if a < k ∨ (a = k ∧ b < j) then L a b + X a b else L a b
theorem addTo_step (L X : Nat → Nat → Int) (k j : Nat) : upd (addTo L X k j) k j (L k j + X k j) = addTo L X k (j + 1) := by
  funext a b
  unfold upd addTo
  by_cases h : a = k ∧ b = j
  · obtain ⟨rfl, rfl⟩ := h
    rw [if_pos ⟨rfl, rfl⟩, if_pos (by omega)]
  · rw [if_neg h]
    by_cases h1 : a < k ∨ (a = k ∧ b < j)
    · rw [if_pos h1, if_pos (by omega)]
    · rw [if_neg h1, if_neg (by omega)]
theorem addTo_here (L X : Nat → Nat → Int) (k j : Nat) : addTo L X k j k j = L k j := by unfold addTo; rw [if_neg (by omega)]
theorem addTo_row {L X : Nat → Nat → Int} {n k a b : Nat} (hb : b < n) : addTo L X k n a b = addTo L X (k + 1) 0 a b := by
  unfold addTo
  by_cases h1 : a < k ∨ (a = k ∧ b < n)
  · rw [if_pos h1, if_pos (by omega)]
  · rw [if_neg h1, if_neg (by omega)]
theorem addTo_all {L X : Nat → Nat → Int} {n a b : Nat} (ha : a < n) : addTo L X n 0 a b = L a b + X a b := by unfold addTo; rw [if_pos (by omega)]
theorem addTo_none {L X : Nat → Nat → Int} {a b : Nat} : addTo L X 0 0 a b = L a b := by unfold addTo; rw [if_neg (by omega)]
set_option maxRecDepth 100000 in
set_option maxHeartbeats 2000000 in
theorem impl_addTables (A : Option Addr) (n c : Nat) (L : Nat → Nat → Int) (A' : Option Addr) (c' : Nat) (X : Nat → Nat → Int) (w : World) (hx : RdT w A n (tabF n L)) (hy : RdT w A' n (tabF n X)) (hn : n ≤ 6) (hL : Bk n L) (hX : Bk n X) :
    Calls Try.prog 50 #[.slice A n c, .slice A' n c'] w fun e w' => ∃ A'' c'', e = .returned (.slice A'' n c'') ∧ OwnT w' w.heap.size w'.heap.size A'' n c'' (tabF n (fun i j => L i j + X i j)) ∧ Below w.heap.size w w' := by
  have HL := Lib.hid hL; clear hL
  have HX := Lib.hid hX; clear hX
  go_enter Try.func50, Try.ntmps50
  go_wp2_with fail
  refine (impl_copyTable A n c _ _ hx (tabF_sm hn)).mono ?_
  rintro e w2 ⟨A2, c2, rfl, h2, b2⟩
  obtain ⟨Z, hZ⟩ : ∃ Z, w2.heap.size = Z := ⟨_, rfl⟩
  rw [hZ] at h2
  have hZ0 : w.heap.size ≤ Z := by rw [← hZ]; exact b2.size
  go_wp2
  go_loopg [12] n (fun g i wr => ∃ k : Nat, k ≤ n ∧ g = n - k ∧ i = .int .i64 k ∧ OwnT wr w.heap.size Z A2 n c2 (tabF n (addTo L X k 0)) ∧ Below w.heap.size w wr)
  case atStart => exact ⟨0, Nat.zero_le _, rfl, rfl, h2.cong (fun i j _ _ => addTo_none.symm), b2⟩
  case round =>
    clear h2 b2 hZ
    obtain ⟨k, hk, rfl, rfl, hown, hbel⟩ := hrel
    by_cases hlt : k < n
    · obtain ⟨g, gk, ck, y, hA, q1, q2, q3, q4, q5, q6, q7, q8, q9, HY, q10, q11, HP⟩ := hown.atF hlt hlt
      subst hA
      clear HY q10 q11 HP q6 q7 q8 q9 q1 q2 q3
      go_wp2
      go_loopg [20] n (fun g' i wr => ∃ j : Nat, j ≤ n ∧ g' = n - j ∧ i = .int .i64 j ∧ OwnT wr w.heap.size Z (some ⟨g, 0, none⟩) n c2 (tabF n (addTo L X k j)) ∧ Below w.heap.size w wr)
      case atStart => exact ⟨0, Nat.zero_le _, rfl, rfl, hown, hbel⟩
      case round =>
        clear hown hbel q4
        obtain ⟨j, hj, rfl, rfl, hown, hbel⟩ := hrel
        by_cases hjl : j < n
        · obtain ⟨b, off, b2, off2, ckb, x, rfl, hcb, hnb, HXv, hcx⟩ := hy.atFF hlt hjl
          obtain ⟨W, hW⟩ : ∃ W : World, wr.drew = W := ⟨_, rfl⟩
          have hbW := hbel.drew
          have hownW := hown.drew
          rw [hW] at hbW hownW
          have hcbW := (hbW.cell (p := ⟨b, off + k, none⟩) (World.block_lt_of_cell? _ _ hcb)).trans hcb
          have hcxW := (hbW.cell (p := ⟨b2, off2 + j, none⟩) (World.block_lt_of_cell? _ _ hcx)).trans hcx
          clear hcb hcx
          obtain ⟨g', gk', ck', y, hA, r1, r2, r3, r4, r5, r6, r7, r8, r9, HY, r10, r11, HP⟩ := hownW.atF hlt hjl
          injection hA with hA; injection hA with hA; subst hA
          have HYL : Hid (L k j = y) := by have := HY.out; rwa [addTo_here] at this
          have hyb : -1000 ≤ y ∧ y ≤ 1000 := by rw [← HYL.out]; exact HL.out k j hlt hjl
          have hxb : -1000 ≤ x ∧ x ≤ 1000 := by rw [← HXv.out]; exact HX.out k j hlt hjl
          obtain ⟨hy1, hy2⟩ := hyb
          obtain ⟨hx1, hx2⟩ := hxb
          have hT9 : OwnT (W.setCell ⟨gk', j, none⟩ (.int .i64 (y + x))) w.heap.size Z (some ⟨g, 0, none⟩) n c2 (tabF n (addTo L X k (j + 1))) := by rw [← addTo_step, HYL.out, HXv.out]; exact HP.out (y + x)
          clear hown hbel
          go_wp2_with fail
          refine wp_region_still_tail 16 (by kernel_rfl) (by kernel_rfl) ?_
          simp only [List.take_succ_cons, List.take_zero, List.drop_succ_cons, List.drop_zero]
          change wpStill _ _ (World.drew wr) (fun a' => wpList _ _ _ _ a' (World.drew wr)) _ _
          rw [hW]
          clear hW
          repeat still_step
          refine wpStill_nil ?_
          go_wp2
          go_roundg (n - (j + 1))
          case rel => exact ⟨j + 1, by omega, rfl, by go_num, hT9, hbW.setCell (by simpa using r6) _⟩
          case measure => omega
        · go_wp2
          go_roundg (n - (k + 1))
          case rel =>
            obtain rfl : j = n := by omega
            exact ⟨k + 1, by omega, rfl, by go_num, hown.cong (fun a b _ hb => addTo_row hb), hbel⟩
          case measure => omega
    · go_wp2
      go_ret
      obtain rfl : k = n := by omega
      exact ⟨A2, c2, rfl, (hown.cong (fun a b ha _ => addTo_all ha)).tight, hbel⟩
end Go.Proofs.Ythfjlellaojdmaa
