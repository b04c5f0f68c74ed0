/- The plain laws behind FnStepClashes, FnStepRun, FnStepSet and FnStepWay. No condition. -/
import Derived.Test.Ytiahpaakkijejaa3f
import Derived.Test.Ytiahpaakkijejaa3h
namespace Go.Proofs.Ytiahpaakkijejaa
open Go.RowKit
set_option linter.unusedSimpArgs false
set_option linter.unusedVariables false
theorem way_congr {n st : Nat} {p q : Nat → Nat} (h : ∀ i, i < n → p i = q i) {i s : Nat} (hi : i < n) : way n st p i s = way n st q i s := by unfold way; rw [h i hi]
theorem noClash_congr {n st : Nat} {p q : Nat → Nat} (h : ∀ i, i < n → p i = q i) (hc : NoClash n st q) : NoClash n st p := fun i j s hi hj hs e =>
  hc i j s hi hj hs (by rw [← way_congr h hi, ← way_congr h hj]; exact e)
theorem setN_congr {n st : Nat} {p q : Nat → Nat} (h : ∀ i, i < n → p i = q i) : setN n st p = setN n st q := by
  unfold setN
  apply List.map_congr_left
  intro k hk
  unfold finB
  rw [Bool.eq_iff_iff, List.any_eq_true, List.any_eq_true]
  constructor
  · rintro ⟨i, hi, he⟩
    refine ⟨i, hi, ?_⟩
    unfold crossB at he ⊢
    rw [← way_congr h (List.mem_range.1 hi), ← way_congr h (List.mem_range.1 hi)]; exact he
  · rintro ⟨i, hi, he⟩
    refine ⟨i, hi, ?_⟩
    unfold crossB at he ⊢
    rw [way_congr h (List.mem_range.1 hi), way_congr h (List.mem_range.1 hi)]; exact he
theorem clash_neg {p : List Int} (h : clashL p < 0) : clashL p = -1 := by
  unfold clashL at h ⊢
  split
  · rename_i h1; rw [if_pos h1] at h; omega
  · rfl
theorem shift2 : ∀ a, a < 2 → clashN 2 1 (fun j => (a + j) % 2) = 0 := by decide +kernel
theorem shift4 : ∀ a, a < 4 → clashN 4 2 (fun j => (a + j) % 4) = 0 := by decide +kernel
theorem shift8 : ∀ a, a < 8 → clashN 8 3 (fun j => (a + j) % 8) = 0 := by decide +kernel
theorem shift_no {n st a : Nat} (h : NetOk n st) (ha : a < n) : NoClash n st (fun j => (a + j) % n) := by
  rw [← clash_zero]
  rcases h with ⟨rfl, rfl⟩ | ⟨rfl, rfl⟩ | ⟨rfl, rfl⟩
  · exact shift2 a ha
  · exact shift4 a ha
  · exact shift8 a ha
theorem clash_facts {xs : List Int} {n : Nat} {V : Int} (hl : xs.length = n) (h : clashL xs = V) (hv : ¬ V < 0) :
    (n = 2 ∨ n = 4 ∨ n = 8) ∧ PermOk xs ∧ 0 ≤ V ∧ V ≤ 28 ∧ 2 * V ≤ (n : Int) * ((n : Int) - 1) ∧ ((∀ j, j < n → pF xs j = (pF xs 0 + j) % n) → V = 0) := by
  by_cases hc : 0 < stepsI xs.length ∧ PermOk xs
  · rcases lines_cases xs.length with ⟨h1, -⟩ | ⟨n', st, hn, hN, h1, -, h3⟩
    · omega
    · have hn' : n = n' := by omega
      subst hn'
      rw [hn] at h1
      have hy := clash_yes hl hN h1 hc.2
      have hb := clashTo_le (n := n) (st := st) (pF xs) n
      have h28 := clash_bd (n := n) (st := st) (p := pF xs) (k := n) (by have := net_bd hN; omega)
      have hV : V = (clashTo n st (pF xs) n : Int) := by rw [← h, hy]; rfl
      have hnet : n = 2 ∨ n = 4 ∨ n = 8 := by unfold NetOk at hN; omega
      refine ⟨hnet, hc.2, by omega, by omega, ?_, fun hs => ?_⟩
      · have e : ((n * (n - 1) : Nat) : Int) = (n : Int) * ((n : Int) - 1) := by rcases hnet with rfl | rfl | rfl <;> rfl
        rw [← e]; omega
      · have h0 : pF xs 0 < n := by have := (pF_some hc.2 (i := 0) (by omega)).2; omega
        have := (clash_zero (pF xs)).2 (noClash_congr hs (shift_no hN h0))
        rw [← h, hy, this]; rfl
  · rw [clash_no hc] at h; omega
/-- A list drawn from an injective map below n. -/
theorem perm_map {n : Nat} {q : Nat → Nat} (h1 : ∀ i, i < n → q i < n) (h2 : ∀ i j, i < n → j < n → q i = q j → i = j) : PermOk ((List.range n).map fun i => (q i : Int)) := by
  intro i x hx
  have hi : i < n := by have := (List.getElem?_eq_some_iff.1 hx).1; simpa using this
  have hx' : x = (q i : Int) := by
    rw [List.getElem?_map, List.getElem?_range hi] at hx
    simpa using hx.symm
  have := h1 i hi
  refine ⟨by omega, by simp; omega, fun hm => ?_⟩
  rw [← List.map_take] at hm
  obtain ⟨j, hj, he⟩ := List.mem_map.1 hm
  obtain ⟨k, hk⟩ := List.mem_iff_getElem?.1 hj
  rw [List.getElem?_take] at hk
  split at hk
  · rename_i hki
    rw [List.getElem?_range (by omega)] at hk
    injection hk with hk
    subst hk
    have := h2 k i (by omega) hi (by omega)
    omega
  · cases hk
theorem pF_map {n : Nat} {q : Nat → Nat} {i : Nat} (hi : i < n) : pF ((List.range n).map fun i => (q i : Int)) i = q i := by
  unfold pF
  rw [List.getD_eq_getElem?_getD, List.getElem?_map, List.getElem?_range hi]
  simp
theorem run_facts {l : Int} {set : List Bool} {ys : List Int} (h : stepRunL l set = ys) (h0 : ys.length ≠ 0) : PermOk ys ∧ clashL ys = 0 ∧ stepSetL ys = (set, true) ∧ ys.length ≤ 8 := by
  rcases lines_cases l with ⟨h1, -⟩ | ⟨n, st, rfl, hN, h1, -, h3⟩
  · rw [sr_no (by omega)] at h; subst h; simp at h0
  · by_cases hs : (set.length : Int) = sManyI n
    · rw [sr_yes hN h1 hs] at h
      subst h
      obtain ⟨b1, b2, b3, b4⟩ := net_bd hN
      have hl : (runN n st set).length = n := runN_len _ _ _
      have hq : ∀ i, i < n → runTo n set i st < n := fun i hi => runTo_lt hN hi st
      have hP : PermOk (runN n st set) := perm_map hq (fun i j hi hj he => runTo_inj hN hi hj st he)
      have hF : ∀ i, i < n → pF (runN n st set) i = runTo n set i st := fun i hi => pF_map hi
      have hc : NoClash n st (pF (runN n st set)) := noClash_congr hF (run_noClash hN)
      have hz : clashL (runN n st set) = 0 := by rw [clash_yes hl hN h1 hP, (clash_zero _).2 hc]; rfl
      refine ⟨hP, hz, ?_, by omega⟩
      rw [ss_yes hz hl h1, setN_congr hF, run_set hN (by omega)]
    · rw [sr_no (fun h => hs h.2)] at h; subst h; simp at h0
theorem set_facts {p : List Int} (h : clashL p = 0) : stepRunL p.length (stepSetL p).1 = p := by
  obtain ⟨n, st, hl, hN, hs, hP, hc, hm⟩ := clash_perm h
  rw [ss_yes h hl hs, hl]
  have hlt : ∀ i, i < n → pF p i < n := fun i hi => by have := (pF_some hP (i := i) (by omega)).2; omega
  rw [sr_yes hN hs (by show ((setN _ _ _).length : Int) = _; rw [setN_len, hm])]
  show runN n st (setN n st (pF p)) = p
  rw [set_runN _ hN hc hlt]
  apply List.ext_getElem?
  intro i
  by_cases hi : i < n
  · rw [List.getElem?_map, List.getElem?_range hi, (pF_some hP (i := i) (by omega)).1]; rfl
  · rw [List.getElem?_eq_none (by simp; omega), List.getElem?_eq_none (by omega)]
theorem set_ok {p : List Int} {ys : List Bool} {b : Bool} (h : stepSetL p = (ys, b)) : b = (clashL p == 0) ∧ (b = true → stepRunL p.length ys = p) := by
  by_cases hc : clashL p = 0
  · have := set_facts hc
    rw [h] at this
    obtain ⟨n, st, hl, hN, hs, -⟩ := clash_perm hc
    rw [ss_yes hc hl hs] at h
    injection h with h1 h2
    exact ⟨by rw [← h2, hc]; rfl, fun _ => this⟩
  · rw [ss_no hc] at h
    injection h with h1 h2
    exact ⟨by rw [← h2]; symm; rw [beq_eq_false_iff_ne]; exact hc, fun hb => by rw [← h2] at hb; cases hb⟩
end Go.Proofs.Ytiahpaakkijejaa
