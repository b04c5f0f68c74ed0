/- newTable and FillUp of the program. Condition: tables of at most 1048576 numbers. -/
import Derived.Test.Ythfjlellaojdmaa5l2
namespace Go.Proofs.Ythfjlellaojdmaa
open Go.RowKit
set_option linter.unusedSimpArgs false
set_option linter.unusedVariables false
theorem fill_sm {t : List (List Int)} (h : SmT t) : SmT (fillL t) := by
  by_cases hT : TrafOk t
  · rw [fillL_yes hT]; exact tabF_sm hT.six
  · rw [fillL_no hT]; exact SmT.nil
theorem rowF_zero (n : Nat) : List.replicate n (0 : Int) = rowF n (fun _ => 0) := by
  apply List.ext_getElem?
  intro i
  by_cases hi : i < n
  · rw [rowF_at hi]; simp [hi]
  · rw [List.getElem?_eq_none (by simp; omega), List.getElem?_eq_none (by rw [rowF_len]; omega)]
theorem tabF_zero (n : Nat) : List.replicate n (rowF n (fun _ => 0)) = tabF n (fun _ _ => 0) := by
  apply List.ext_getElem?
  intro i
  by_cases hi : i < n
  · rw [tabF_at hi]; simp [hi]
  · rw [List.getElem?_eq_none (by simp; omega), List.getElem?_eq_none (by rw [tabF_len]; omega)]
section
variable {n : Nat} {f : Nat → Nat → Int} {M : Int} {y : Nat → Nat → Int} {k j : Nat}
theorem FillInv.rowpos (h : FillInv n f M y k j) (a : Nat) (ha : a < n) : 0 ≤ rowS n y a := sumN_nonneg fun b hb => h.pos a b ha hb
theorem FillInv.colpos (h : FillInv n f M y k j) (b : Nat) (hb : b < n) : 0 ≤ colS n y b := sumN_nonneg fun a ha => h.pos a b ha hb
theorem FillInv.bdR (h : FillInv n f M y k j) (h0 : ∀ i j, i < n → j < n → 0 ≤ f i j) {a : Nat} (ha : a < n) : 0 ≤ roomR n f M y a ∧ roomR n f M y a ≤ M := by
  refine ⟨h.rr a ha, ?_⟩
  have h1 := h.rowpos a ha
  have h2 : 0 ≤ rowS n f a := sumN_nonneg fun b hb => h0 a b ha hb
  unfold roomR; omega
theorem FillInv.bdC (h : FillInv n f M y k j) (h0 : ∀ i j, i < n → j < n → 0 ≤ f i j) {a : Nat} (ha : a < n) : 0 ≤ roomC n f M y a ∧ roomC n f M y a ≤ M := by
  refine ⟨h.rc a ha, ?_⟩
  have h1 := h.colpos a ha
  have h2 : 0 ≤ colS n f a := sumN_nonneg fun b hb => h0 b a hb ha
  unfold roomC; omega
theorem FillInv.setR (h : FillInv n f M y k j) (hk : k < n) (hj : j < n) (v : Int) : (rowF n (roomR n f M y)).set k (roomR n f M y k - v) = rowF n (roomR n f M (upd y k j v)) := by
  have e0 := h.new k j hk hj (.inr ⟨rfl, Nat.le_refl _⟩)
  rw [rowF_set hk]
  refine rowF_congr fun a ha => ?_
  unfold upd1 roomR
  rw [rowS_upd hj]
  split
  · subst_vars; omega
  · rfl
theorem FillInv.setC (h : FillInv n f M y k j) (hk : k < n) (hj : j < n) (v : Int) : (rowF n (roomC n f M y)).set j (roomC n f M y j - v) = rowF n (roomC n f M (upd y k j v)) := by
  have e0 := h.new k j hk hj (.inr ⟨rfl, Nat.le_refl _⟩)
  rw [rowF_set hj]
  refine rowF_congr fun a ha => ?_
  unfold upd1 roomC
  rw [colS_upd hk]
  split
  · subst_vars; omega
  · rfl
theorem fill_at {n : Nat} {f : Nat → Nat → Int} {k j : Nat} (hk : k < n) (hj : j ≤ n) : FillInv n f (mostF n f) (fillJ n f (mostF n f) (fillK n f (mostF n f) k) k j) k j :=
  fill_row (fill_inv (fun a ha => (mostTo_ge n f ha).1) (fun a ha => (mostTo_ge n f ha).2) k (by omega)) hk j hj
end
theorem RdL.rowF_of {w : World} {A : Option Addr} {n : Nat} {f : Nat → Int} (h : RdL iv w A n (rowF n f)) : Hid (RdL iv w A n (rowF n f)) := h
theorem OwnL.atF {w : World} {B : Nat} {A : Option Addr} {n c : Nat} {f : Nat → Int} (h : OwnL iv w B 3 A n c (rowF n f)) {k : Nat} (hk : k < n) :
    ∃ g x, A = some ⟨g, 0, none⟩ ∧ B ≤ g ∧ g < w.heap.size ∧ Hid (f k = x) ∧ w.cell? ⟨g, k, none⟩ = some (iv x) ∧ w.frozen? ⟨g, k, none⟩ = false := by
  obtain ⟨g, x, hA, h1, h2, HX, h3, h4⟩ := h.at hk
  have e := HX.out
  rw [rowF_at hk] at e; injection e with e
  exact ⟨g, x, hA, h1, h2, e, h3, h4⟩
theorem impl_newTable (n : Nat) (w : World) (hn : n ≤ 6) :
    Calls Try.prog 55 #[.int .i64 n] w fun e w' => ∃ A' c', e = .returned (.slice A' n c') ∧ OwnT w' w.heap.size w'.heap.size A' n c' (tabF n (fun _ _ => 0)) ∧ Below w.heap.size w w' := by
  have hmk := run_make_row' (P := Try.prog) 23 30 (.slice none 0 0) 24 Try.underlying23 info_row rfl .i64 .i64 n (by omega) (by omega)
  go_enter Try.func55, Try.ntmps55
  go_wp2
  clear hmk
  go_loopg [9] n (fun g i wr => ∃ k : Nat, k ≤ n ∧ g = n - k ∧ i = .int .i64 k ∧ OwnT wr w.heap.size wr.heap.size (some ⟨w.heap.size, 0, none⟩) n n (List.replicate k (rowF n (fun _ => 0)) ++ List.replicate (n - k) []) ∧ Below w.heap.size w wr)
  case atStart => exact ⟨0, Nat.zero_le _, rfl, rfl, OwnT.tight (OwnT.made w n (by unfold maxLen; omega) (Nat.le_refl _)), below_box w _⟩
  case round =>
    obtain ⟨k, hk, rfl, rfl, hown, hbel⟩ := hrel
    by_cases hlt : k < n
    · obtain ⟨g', Ak', nk', ck', r', hA, hB, hg', hF, HY, gc, gf, ho', hne'⟩ := hown.at hlt
      injection hA with hA; injection hA with hA; subst hA
      have hz := hbel.size
      clear ho' hne' HY
      have gc0 : (wr.alloc (.cells (madeCells #[iv 0] n) 3)).cell? ⟨w.heap.size, k, none⟩ = some (.slice Ak' nk' ck') := (World.cell?_of_block (Below.heap_alloc wr _ _ hg')).trans gc
      have hmk := run_make_row' (P := Try.prog) 30 3 (.int .i64 0) 8 Try.underlying30 info_int rfl .i64 .i64 n (by omega) (by omega)
      have hO1 := OwnL.made (emb := iv) (e := 3) wr (0 : Int) n (by unfold maxLen; omega) wr.heap.size (Nat.le_refl _)
      have hT2 := OwnT.tight (hown.putNew (below_box wr (.cells (madeCells #[iv 0] n) 3)) hlt hO1 (F' := wr.heap.size + 1) (by omega) (by simp))
      have hb2 : Below w.heap.size w ((wr.alloc (.cells (madeCells #[iv 0] n) 3)).setCell ⟨w.heap.size, k, none⟩ (.slice (some ⟨wr.heap.size, 0, none⟩) n n)) := (bbox hbel (by omega) _).setCell (Nat.le_refl _) _
      rw [World.setCell_alloc_past _ _ _ _ hg'] at hT2 hb2
      go_wp2
      go_roundg (n - (k + 1))
      case rel =>
        refine ⟨k + 1, by omega, rfl, by go_num, ?_, hb2⟩
        have e : (List.replicate k (rowF n (fun _ => 0)) ++ List.replicate (n - k) []).set k (List.replicate n 0) = List.replicate (k + 1) (rowF n (fun _ => 0)) ++ List.replicate (n - (k + 1)) [] := by
          have h1 := set_fillT (xs := List.replicate n (rowF n (fun _ => 0))) (x := rowF n (fun _ => 0)) (n := n) (k := k) (by simp) hlt (by simp [hlt])
          rw [rowF_zero]
          simpa [List.take_replicate, Nat.min_eq_left (Nat.le_of_lt hlt), Nat.min_eq_left (show k + 1 ≤ n by omega)] using h1
        rw [e] at hT2
        exact hT2
      case measure => omega
    · go_wp2
      go_ret
      obtain rfl : k = n := by omega
      refine ⟨_, _, rfl, ?_, hbel⟩
      rw [Nat.sub_self, tabF_zero] at hown
      simpa using hown
end Go.Proofs.Ythfjlellaojdmaa
