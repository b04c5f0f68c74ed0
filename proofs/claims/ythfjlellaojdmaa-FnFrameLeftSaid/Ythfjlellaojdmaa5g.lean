/- greedySlot of the program: the next slot, and what it leaves. Condition: at most 6 inputs, numbers from 0 to 1000. -/
import Derived.Test.Ythfjlellaojdmaa5u2
import Derived.Test.Ythfjlellaojdmaa5o
namespace Go.Proofs.Ythfjlellaojdmaa
open Go.RowKit
set_option linter.unusedSimpArgs false
set_option linter.unusedVariables false
section
variable {w w' : World} {B F n c : Nat} {A : Option Addr} {rows : List (List Int)} {hs : List Hd}
/-- The table's blocks are none of those of which V speaks. -/
def Av (V : Nat → Prop) (A : Option Addr) (hs : List Hd) : Prop := (∀ b, blk A = some b → ¬ V b) ∧ ∀ (k : Nat) h b, hs[k]? = some h → blk h.a = some b → ¬ V b
theorem TabH.keepV {V : Nat → Prop} (h : TabH w B F A n c rows hs) (hv : Av V A hs) (hk : Kb V w w') : TabH w' B F A n c rows hs :=
  ⟨h.own.keep fun g hg => hk.block g (h.own.lt hg).2 (hv.1 g hg), h.len, h.hi, fun k y r hy hr => ⟨(h.row k y r hy hr).1.keep fun g hg => hk.block g ((h.row k y r hy hr).1.lt hg).2 (hv.2 k y g hy hg), (h.row k y r hy hr).2⟩, h.sep⟩
/-- A row that lies in none of the table's blocks is appended. -/
theorem tab_push2 {A1 Ar : Option Addr} {nr cr c1 : Nat} {r : List Int} {o : Obj} (h : TabH w B F A n c rows hs) (hr : OwnL iv w B 3 Ar nr cr r) (hne : ∀ b, blk Ar = some b → F ≤ b) (hF : F ≤ w.heap.size)
    (ho : OwnL hdv w' B 30 A1 (n + 1) c1 (hs ++ [⟨Ar, nr, cr⟩])) (hg : (w.alloc o).grownBy w' (blk A)) (hb1 : blk A1 = blk A ∨ blk A1 = some (w.alloc o).heap.size) :
    TabH w' B w'.heap.size A1 (n + 1) c1 (rows ++ [r]) (hs ++ [⟨Ar, nr, cr⟩]) := by
  have hrb : ∀ b, blk Ar = some b → F ≤ b ∧ b < w.heap.size := fun b hb => ⟨hne b hb, (hr.lt hb).2⟩
  have hws : (w.alloc o).heap.size = w.heap.size + 1 := by simp
  have hgs := hg.size
  have hA : ∀ g, blk A = some g → g < F := h.hi
  have hkeep : ∀ b, b < w.heap.size → blk A ≠ some b → w'.heap[b]? = w.heap[b]? := fun b hb hne => (hg.block b (by omega) (fun e => hne e.symm)).trans (Below.heap_alloc w o b hb)
  have hhl := h.hlen
  have hrl := h.len
  refine ⟨ho, by simp [h.len], fun b hb => (ho.lt hb).2, fun k y r' hy hr' => ?_, fun k l y z b hne' hy hz hb => ?_⟩
  · rcases Nat.lt_or_ge k n with hk | hk
    · rw [List.getElem?_append_left (by omega)] at hy
      rw [List.getElem?_append_left (by omega)] at hr'
      have h3 := h.row k y r' hy hr'
      refine ⟨h3.1.keep fun b hb => hkeep b (h3.1.lt hb).2 (fun e => (h3.2 b hb).1 e), fun b hb => ⟨?_, by have := (h3.2 b hb).2; omega⟩⟩
      rcases hb1 with e | e
      · rw [e]; exact (h3.2 b hb).1
      · rw [e]; intro e2; injection e2 with e2; have := (h3.1.lt hb).2; omega
    · have hk' : k = n := by
        have := (List.getElem?_eq_some_iff.1 hy).1; simp at this; omega
      rw [List.getElem?_append_right (by omega), hk', hhl, Nat.sub_self] at hy
      rw [List.getElem?_append_right (by omega), hk', hrl, Nat.sub_self] at hr'
      simp at hy hr'
      subst hy hr'
      refine ⟨hr.keep fun b hb => hkeep b (hrb b hb).2 (fun e => by have := hA b e; have := (hrb b hb).1; omega), fun b hb => ⟨?_, by have := hrb b hb; omega⟩⟩
      rcases hb1 with e | e
      · rw [e]; intro e2; have := hA b e2; have := (hrb b hb).1; omega
      · rw [e]; intro e2; injection e2 with e2; have := (hrb b hb).2; omega
  · have hnew : ∀ {k : Nat} {y : Hd}, (hs ++ [(⟨Ar, nr, cr⟩ : Hd)])[k]? = some y → (k < n ∧ hs[k]? = some y) ∨ (k = n ∧ y = ⟨Ar, nr, cr⟩) := fun {k y} hy => by
      rcases Nat.lt_or_ge k n with hk | hk
      · rw [List.getElem?_append_left (by omega)] at hy; exact .inl ⟨hk, hy⟩
      · have hk' : k = n := by
          have := (List.getElem?_eq_some_iff.1 hy).1; simp at this; omega
        rw [List.getElem?_append_right (by omega), hk', hhl, Nat.sub_self] at hy
        simp at hy
        exact .inr ⟨hk', hy.symm⟩
    rcases hnew hy with ⟨hk, hy'⟩ | ⟨hk, rfl⟩ <;> rcases hnew hz with ⟨hl, hz'⟩ | ⟨hl, rfl⟩
    · exact h.sep k l y z b hne' hy' hz' hb
    · intro e; have := (h.lt hy' hb).2.2; have := (hrb b e).1; omega
    · intro e; have := (h.lt hz' e).2.2; have := (hrb b hb).1; omega
    · omega
theorem Av.push {V : Nat → Prop} {A1 Ar : Option Addr} {nr cr : Nat} (h : Av V A hs) (hr : ∀ b, blk Ar = some b → ¬ V b) (h1 : ∀ b, blk A1 = some b → ¬ V b) : Av V A1 (hs ++ [⟨Ar, nr, cr⟩]) := by
  refine ⟨h1, fun k y b hy hb => ?_⟩
  rcases Nat.lt_or_ge k hs.length with hk | hk
  · rw [List.getElem?_append_left hk] at hy; exact h.2 k y b hy hb
  · rw [List.getElem?_append_right hk] at hy
    have hk0 : k - hs.length = 0 := by
      rcases Nat.eq_zero_or_pos (k - hs.length) with e | e
      · exact e
      · rw [List.getElem?_eq_none (by simp; omega)] at hy; cases hy
    rw [hk0] at hy
    simp at hy
    subst hy
    exact hr b hb
end
theorem kb_first {S : Nat → Prop} {w w1 w2 : World} (h1 : Below w.heap.size w w1) (h2 : Kb S w1 w2) : Kb S w w2 := (Kb.of h1).trans h2
set_option maxRecDepth 100000 in
set_option maxHeartbeats 2000000 in
theorem impl_greedySlot (A : Option Addr) (n c : Nat) (L : Nat → Nat → Int) (B F : Nat) (w : World) (h : OwnT w B F A n c (tabF n L)) (hF : F ≤ w.heap.size) (hn : n ≤ 6) (hb : Bd n L 0 1000) :
    Calls Try.prog 57 #[.slice A n c] w fun e w' => ∃ A' c', e = .returned (.slice A' n c') ∧ OwnL iv w' w.heap.size 3 A' n c' (gS n L n) ∧ OwnT w' B F A n c (tabF n (fun i j => L i j - hit i j (gS n L n))) ∧ Kb (fun g => B ≤ g ∧ g < F) w w' := by
  obtain ⟨r, hr⟩ : ∃ r, gS n L n = r := ⟨_, rfl⟩
  have HRL : Hid (r.length = n) := by rw [← hr]; exact gS_len n L n
  have HRA : Hid (∀ k, k < n → r[k]? = some (pickN (gFree L (r.take k) k) n)) := fun k hk => by rw [← hr, gS_take n L (Nat.le_of_lt hk)]; exact gS_at n L hk
  rw [hr]
  clear hr
  have HB := Lib.hid hb; clear hb
  have hmk := run_make_row' (P := Try.prog) 30 3 (.int .i64 0) 8 Try.underlying30 info_int rfl .i64 .i64 n (by omega) (by omega)
  have hmk2 := run_make_row' (P := Try.prog) 40 4 (.bool false) 1 Try.underlying40 info_bool rfl .i64 .i64 n (by omega) (by omega)
  go_enter Try.func57, Try.ntmps57
  go_wp2
  clear hmk hmk2
  go_loopg [17] n (fun g i wr => ∃ (k : Nat) (ss : List Bool), k ≤ n ∧ g = n - k ∧ i = .int .i64 k ∧ OwnL iv wr w.heap.size 3 (some ⟨w.heap.size, 0, none⟩) n n (r.take k ++ List.replicate (n - k) 0) ∧ OwnL bv wr w.heap.size 4 (some ⟨w.heap.size + 1, 0, none⟩) n n ss ∧ Hid (SeenTo r k n ss) ∧ OwnT wr B F A n c (tabF n (partL L r k)) ∧ Kb (fun g => B ≤ g ∧ g < F) w wr)
  case atStart =>
    have h1 := OwnL.made (emb := iv) (e := 3) w (0 : Int) n (by unfold maxLen; omega) w.heap.size (Nat.le_refl _)
    have h2 := OwnL.made (emb := bv) (e := 4) (w.alloc (.cells (madeCells #[iv 0] n) 3)) false n (by unfold maxLen; omega) w.heap.size (by simp)
    exact ⟨0, _, Nat.zero_le _, rfl, rfl, by simpa using h1.alloc _, by simpa using h2, SeenTo.zero _ _, ((h.alloc _).alloc _).cong (fun i j _ _ => by unfold partL; rw [hitTo_zero]; omega), ((Kb.refl _ _).alloc _).alloc _⟩
  case round =>
    clear h
    obtain ⟨k, ss, hk, rfl, rfl, hS, hU, HU, hown, hkb⟩ := hrel
    have hsz := hkb.size
    by_cases hlt : k < n
    · have HRk := Lib.hid (HRA.out k hlt)
      obtain ⟨b, off, Ak, ck, rfl, hcY, hrY, hnY⟩ := hown.rd.atF hlt
      obtain ⟨g1, y1, hA, p1, p2, HY1, p3, p4⟩ := hS.at hlt
      injection hA with hA; injection hA with hA; subst hA
      clear HY1
      obtain ⟨g, gk, ck2, y, hA, q1, q2, q3, q4, q5, q6, q7, q8, q9, HY, q10, q11, HP⟩ := hown.atF hlt hlt
      injection hA with hA; injection hA with hA1 hA2; subst hA1 hA2
      rw [Nat.zero_add] at hcY
      rw [q4] at hcY
      injection hcY with hcY; injection hcY with hcY1 hcY2 hcY3; subst hcY1 hcY3
      clear hcY2 HY q10 q11 HP hrY hnY
      have hb0 := hU.lt (g := w.heap.size + 1) rfl
      have S1 := hS.set k (-1)
      have U1 := hU.far ⟨w.heap.size, k, none⟩ (.int .i64 (-1)) (fun e => by rw [blk_some] at e; injection e with e; simp at e)
      have T1 := hown.far ⟨w.heap.size, k, none⟩ (.int .i64 (-1)) (.inr hF)
      have K1 := hkb.set (p := ⟨w.heap.size, k, none⟩) (.inr (Nat.le_refl _)) (.int .i64 (-1))
      have c1 : (wr.setCell ⟨w.heap.size, k, none⟩ (.int .i64 (-1))).cell? ⟨b, k, none⟩ = some (.slice (some ⟨gk, 0, none⟩) n ck2) := by rw [World.cell?_setCell_other _ _ _ _ (fun e => by injection e with e; omega)]; exact q4
      go_wp2
      go_loopg [27] n (fun g' i wr => ∃ j : Nat, j ≤ n ∧ g' = n - j ∧ i = .int .i64 j ∧ Hid (∀ j', j' < j → gFree L (r.take k) k j' = false) ∧ OwnL iv wr w.heap.size 3 (some ⟨w.heap.size, 0, none⟩) n n ((r.take k ++ List.replicate (n - k) 0).set k (-1)) ∧ OwnL bv wr w.heap.size 4 (some ⟨w.heap.size + 1, 0, none⟩) n n ss ∧ OwnT wr B F (some ⟨b, 0, none⟩) n c (tabF n (partL L r k)) ∧ Kb (fun g => B ≤ g ∧ g < F) w wr ∧ wr.cell? ⟨b, k, none⟩ = some (.slice (some ⟨gk, 0, none⟩) n ck2))
      case atStart => exact ⟨0, Nat.zero_le _, rfl, rfl, fun j' hj' => absurd hj' (Nat.not_lt_zero _), S1, U1, T1, K1, c1⟩
      case round =>
        clear S1 U1 T1 K1 c1 hS hU hown hkb hb0 p2 p3 p4 q2 q4 q7 hsz
        obtain ⟨j, hj, rfl, rfl, HF, hS, hU, hown, hkb, q4⟩ := hrel
        by_cases hjl : j < n
        · obtain ⟨g, gk', ck3, y, hA, r1, r2, r3, r4, r5, r6, r7, r8, r9, HY, r10, r11, HP⟩ := hown.atF hlt hjl
          injection hA with hA; injection hA with hA; subst hA
          rw [q4] at r4
          injection r4 with r4; injection r4 with r41 r42 r43; injection r41 with r41; injection r41 with r41; subst r41 r43
          clear r42
          have HYL : Hid (L k j = y) := by have := HY.out; rwa [part_here] at this
          have hyb : 0 ≤ y ∧ y ≤ 1000 := by rw [← HYL.out]; exact HB.out k j hlt hjl
          obtain ⟨hy0, hy1⟩ := hyb
          obtain ⟨gu, u, hA, s1, s2, HUu, s3, s4⟩ := hU.at hjl
          injection hA with hA; injection hA with hA; subst hA
          have HUM := Lib.hid (HU.out.out hjl HUu.out)
          have hszw := hkb.size
          by_cases hy : 0 < y
          · cases u with
            | true =>
              have HG : Hid (gFree L (r.take k) k j = false) := by
                show _ = _
                unfold gFree
                rw [decide_eq_true (HUM.out.1 rfl)]; simp
              go_wp2
              go_roundg (n - (j + 1))
              case rel => exact ⟨j + 1, by omega, rfl, by go_num, fun j' hj' => by
                rcases (by omega : j' < j ∨ j' = j) with h1 | rfl
                · exact HF.out j' h1
                · exact HG.out, hS, hU, hown, hkb, q4⟩
              case measure => omega
            | false =>
              have HG : Hid (gFree L (r.take k) k j = true) := by
                show _ = _
                unfold gFree
                rw [HYL.out, decide_eq_true hy, decide_eq_false (fun hm => by have := HUM.out.2 hm; cases this)]; rfl
              have HRv : Hid (r[k]? = some (j : Int)) := by show _ = _; rw [HRk.out, pickN_stop HG.out HF.out hjl]
              obtain ⟨g1, z1, hA, p1, p2, HZ1, p3, p4⟩ := hS.at hlt
              injection hA with hA; injection hA with hA; subst hA
              clear HZ1
              have e1 : (wr.setCell ⟨w.heap.size, k, none⟩ (.int .i64 j)).cell? ⟨w.heap.size + 1, j, none⟩ = some (bv false) := by rw [World.cell?_setCell_other _ _ _ _ (fun e => by injection e with e; omega)]; exact s3
              have e2 : ((wr.setCell ⟨w.heap.size, k, none⟩ (.int .i64 j)).setCell ⟨w.heap.size + 1, j, none⟩ (.bool true)).cell? ⟨gk, j, none⟩ = some (iv y) := by rw [World.cell?_setCell_other _ _ _ _ (fun e => by injection e with e; omega), World.cell?_setCell_other _ _ _ _ (fun e => by injection e with e; omega)]; exact r10
              have e3 : ((wr.setCell ⟨w.heap.size, k, none⟩ (.int .i64 j)).setCell ⟨w.heap.size + 1, j, none⟩ (.bool true)).cell? ⟨b, k, none⟩ = some (.slice (some ⟨gk, 0, none⟩) n ck2) := by rw [World.cell?_setCell_other _ _ _ _ (fun e => by injection e with e; omega), World.cell?_setCell_other _ _ _ _ (fun e => by injection e with e; omega)]; exact q4
              have S2 := ((hS.set k (j : Int)).far ⟨w.heap.size + 1, j, none⟩ (.bool true) (fun e => by rw [blk_some] at e; injection e with e; simp at e)).far ⟨gk, j, none⟩ (.int .i64 (y - 1)) (fun e => by rw [blk_some] at e; injection e with e; simp at e; omega)
              have U2 := ((hU.far ⟨w.heap.size, k, none⟩ (.int .i64 j) (fun e => by rw [blk_some] at e; injection e with e; simp at e)).set j true).far ⟨gk, j, none⟩ (.int .i64 (y - 1)) (fun e => by rw [blk_some] at e; injection e with e; simp at e; omega)
              have T2 := (((hown.far ⟨w.heap.size, k, none⟩ (.int .i64 j) (.inr hF)).far ⟨w.heap.size + 1, j, none⟩ (.bool true) (.inr (Nat.le_succ_of_le hF))).put hlt e3 (tabF_at hlt) j (y - 1))
              rw [tabF_set hlt hjl] at T2
              have K2 := ((hkb.set (p := ⟨w.heap.size, k, none⟩) (.inr (Nat.le_refl _)) (.int .i64 j)).set (p := ⟨w.heap.size + 1, j, none⟩) (.inr (Nat.le_succ _)) (.bool true)).set (p := ⟨gk, j, none⟩) (.inl ⟨r6, r8⟩) (.int .i64 (y - 1))
              rw [List.set_set, set_fill HRL.out hlt HRv.out] at S2
              go_wp2
              go_roundg (n - (k + 1))
              case rel => exact ⟨k + 1, _, by omega, rfl, by go_num, S2, U2, HU.out.succ HRv.out hjl, by rw [partL_sent HRv.out, HYL.out]; exact T2, K2⟩
              case measure => omega
          · have hyz : decide (0 < y) = false := by simpa using hy
            have HG : Hid (gFree L (r.take k) k j = false) := by
              show _ = _
              unfold gFree
              rw [HYL.out, hyz]; rfl
            go_wp2
            go_roundg (n - (j + 1))
            case rel => exact ⟨j + 1, by omega, rfl, by go_num, fun j' hj' => by
                rcases (by omega : j' < j ∨ j' = j) with h1 | rfl
                · exact HF.out j' h1
                · exact HG.out, hS, hU, hown, hkb, q4⟩
            case measure => omega
        · have HRv : Hid (r[k]? = some (-1)) := by
            obtain rfl : j = n := by omega
            show _ = _
            rw [HRk.out, pickN_none HF.out]
          rw [set_fill HRL.out hlt HRv.out] at hS
          go_wp2
          go_roundg (n - (k + 1))
          case rel => exact ⟨k + 1, _, by omega, rfl, by go_num, hS, hU, HU.out.skip HRv.out (by omega), by rw [partL_not HRv.out]; exact hown, hkb⟩
          case measure => omega
    · go_wp2
      go_ret
      obtain rfl : k = n := by omega
      rw [Nat.sub_self, List.take_of_length_le (by rw [HRL.out]; exact Nat.le_refl _)] at hS
      exact ⟨_, _, rfl, by simpa using hS, hown.cong (fun i j hi _ => by unfold partL; rw [hitTo_all _ hi]), hkb⟩
end Go.Proofs.Ythfjlellaojdmaa
