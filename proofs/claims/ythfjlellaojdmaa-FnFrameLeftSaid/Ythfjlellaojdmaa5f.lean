/- The plain mathematics of frames: what they send, what is left, when they are right, and the greedy frame. No condition. -/
import Derived.Test.Ythfjlellaojdmaa5m
namespace Go.Proofs.Ythfjlellaojdmaa
set_option linter.unusedSimpArgs false
set_option linter.unusedVariables false
/-- Whether a slot sends from i to j, and how often a frame does. -/
def hit (i j : Nat) (r : List Int) : Int := if r[i]? = some (j : Int) then 1 else 0
def cnt (fr : List (List Int)) (i j : Nat) : Int := (fr.map (hit i j)).sum
theorem hit_bd (i j : Nat) (r : List Int) : 0 ≤ hit i j r ∧ hit i j r ≤ 1 := by unfold hit; split <;> omega
theorem cnt_nil (i j : Nat) : cnt [] i j = 0 := rfl
theorem cnt_cons (r : List Int) (fr : List (List Int)) (i j : Nat) : cnt (r :: fr) i j = hit i j r + cnt fr i j := by simp [cnt]
theorem cnt_app (fr gr : List (List Int)) (i j : Nat) : cnt (fr ++ gr) i j = cnt fr i j + cnt gr i j := by simp [cnt]
theorem cnt_snoc (fr : List (List Int)) (r : List Int) (i j : Nat) : cnt (fr ++ [r]) i j = cnt fr i j + hit i j r := by simp [cnt]
theorem cnt_nonneg (fr : List (List Int)) (i j : Nat) : 0 ≤ cnt fr i j := by
  induction fr with
  | nil => exact Int.le_refl _
  | cons r fr ih => rw [cnt_cons]; have := (hit_bd i j r).1; omega
theorem cnt_take_le (fr : List (List Int)) (k i j : Nat) : cnt (fr.take k) i j ≤ cnt fr i j := by
  conv => rhs; rw [← List.take_append_drop k fr]
  rw [cnt_app]; have := cnt_nonneg (fr.drop k) i j; omega
theorem cnt_len (fr : List (List Int)) (i j : Nat) : cnt fr i j ≤ fr.length := by
  induction fr with
  | nil => simp [cnt]
  | cons r fr ih => rw [cnt_cons, List.length_cons]; have := (hit_bd i j r).2; omega
/-- What is left when k places of the slot r are sent, too. -/
def hitTo (k i j : Nat) (r : List Int) : Int := if i < k then hit i j r else 0
def leftF (f : Nat → Nat → Int) (fr : List (List Int)) (i j : Nat) : Int := f i j - cnt fr i j
def leftK (f : Nat → Nat → Int) (fr : List (List Int)) (r : List Int) (k i j : Nat) : Int := f i j - cnt fr i j - hitTo k i j r
theorem leftK_zero (f : Nat → Nat → Int) (fr : List (List Int)) (r : List Int) (i j : Nat) : leftK f fr r 0 i j = leftF f fr i j := by simp [leftK, leftF, hitTo]
theorem leftK_done {f : Nat → Nat → Int} {fr : List (List Int)} {r : List Int} {k i j : Nat} (h : i < k ∨ r.length ≤ i) : leftK f fr r k i j = leftF f (fr ++ [r]) i j := by
  unfold leftK leftF hitTo
  rw [cnt_snoc]
  split
  · omega
  · have : hit i j r = 0 := by unfold hit; rw [List.getElem?_eq_none (by omega)]; simp
    omega
theorem leftK_sent {f : Nat → Nat → Int} {fr : List (List Int)} {r : List Int} {k j : Nat} (h : r[k]? = some (j : Int)) (a b : Nat) : leftK f fr r (k + 1) a b = upd (leftK f fr r k) k j (leftK f fr r k k j - 1) a b := by
  unfold upd
  by_cases e : a = k ∧ b = j
  · obtain ⟨rfl, rfl⟩ := e
    rw [if_pos ⟨rfl, rfl⟩]
    unfold leftK hitTo
    rw [if_pos (by omega), if_neg (by omega)]
    unfold hit; rw [if_pos h]; omega
  · rw [if_neg e]
    unfold leftK hitTo
    by_cases h1 : a = k
    · subst h1
      rw [if_pos (by omega), if_neg (by omega)]
      unfold hit; rw [if_neg (by rw [h]; intro hh; injection hh with hh; omega)]
    · by_cases h2 : a < k
      · rw [if_pos (by omega), if_pos h2]
      · rw [if_neg (by omega), if_neg h2]
theorem leftK_not {f : Nat → Nat → Int} {fr : List (List Int)} {r : List Int} {k n : Nat} {x : Int} (h : r[k]? = some x) (hx : x < 0 ∨ (n : Int) ≤ x) (a b : Nat) (hb : b < n) : leftK f fr r (k + 1) a b = leftK f fr r k a b := by
  unfold leftK hitTo
  by_cases h1 : a = k
  · subst h1
    rw [if_pos (by omega), if_neg (by omega)]
    unfold hit; rw [if_neg (by rw [h]; intro hh; injection hh with hh; omega)]
  · by_cases h2 : a < k
    · rw [if_pos (by omega), if_pos h2]
    · rw [if_neg (by omega), if_neg h2]
/-- How many numbers of a slot, of a frame, are not less than 0. -/
def sendS (r : List Int) : Int := ((r.filter fun x => decide (0 ≤ x)).length : Int)
def sendsL (fr : List (List Int)) : Int := (fr.map sendS).sum
theorem sendS_snoc (r : List Int) (x : Int) : sendS (r ++ [x]) = sendS r + if 0 ≤ x then 1 else 0 := by
  unfold sendS; rw [List.filter_append]; by_cases h : 0 ≤ x <;> simp [h]
theorem sendS_take {r : List Int} {k : Nat} {x : Int} (h : r[k]? = some x) : sendS (r.take (k + 1)) = sendS (r.take k) + if 0 ≤ x then 1 else 0 := by
  rw [take_snoc' h, sendS_snoc]
theorem sendS_bd (r : List Int) : 0 ≤ sendS r ∧ sendS r ≤ r.length := by
  unfold sendS; have := List.length_filter_le (fun x => decide (0 ≤ x)) r; omega
theorem sendsL_app (fr gr : List (List Int)) : sendsL (fr ++ gr) = sendsL fr + sendsL gr := by simp [sendsL]
theorem sendsL_snoc (fr : List (List Int)) (r : List Int) : sendsL (fr ++ [r]) = sendsL fr + sendS r := by simp [sendsL]
theorem sendsL_cons (r : List Int) (fr : List (List Int)) : sendsL (r :: fr) = sendS r + sendsL fr := by simp [sendsL]
theorem sendsL_nonneg (fr : List (List Int)) : 0 ≤ sendsL fr := by
  induction fr with
  | nil => exact Int.le_refl _
  | cons r fr ih => rw [sendsL_cons]; have := (sendS_bd r).1; omega
/-- A slot: a number for each input, an output, or -1, no output twice. -/
def SlotOk (n : Nat) (r : List Int) : Prop := r.length = n ∧ ∀ (k : Nat) x, r[k]? = some x → -1 ≤ x ∧ x < n ∧ (0 ≤ x → x ∉ r.take k)
def FrameOkL (n : Nat) (f : Nat → Nat → Int) (fr : List (List Int)) : Prop := fr.length ≤ 36 ∧ (∀ r ∈ fr, SlotOk n r) ∧ ∀ i j, i < n → j < n → cnt fr i j ≤ f i j
theorem sendS_sum {n : Nat} {r : List Int} (h : r.length = n) : sendS r = sumN (fun i => if 0 ≤ r.getD i (-1) then 1 else 0) n := by
  have key : ∀ k, k ≤ n → sendS (r.take k) = sumN (fun i => if 0 ≤ r.getD i (-1) then 1 else 0) k := by
    intro k
    induction k with
    | zero => intro _; rfl
    | succ k ih =>
      intro hk
      have hx : r[k]? = some (r.getD k (-1)) := by rw [List.getD_eq_getElem?_getD, List.getElem?_eq_getElem (by omega)]; rfl
      rw [sendS_take hx, ih (by omega)]; rfl
  have := key n (Nat.le_refl _)
  rwa [List.take_of_length_le (by omega)] at this
theorem hit_row {n i : Nat} {r : List Int} (h : SlotOk n r) (hi : i < n) : sumN (fun j => hit i j r) n = if 0 ≤ r.getD i (-1) then 1 else 0 := by
  have hx : r[i]? = some (r.getD i (-1)) := by rw [List.getD_eq_getElem?_getD, List.getElem?_eq_getElem (by rw [h.1]; exact hi)]; rfl
  generalize r.getD i (-1) = x at hx
  have h1 := h.2 i x hx
  split
  · rename_i h0
    obtain ⟨v, rfl⟩ := Int.eq_ofNat_of_zero_le h0
    have e : ∀ j, j < n → hit i j r = upd1 (fun _ => 0) v 1 j := fun j hj => by
      unfold hit upd1; rw [hx]
      by_cases e : j = v
      · subst e; simp
      · rw [if_neg (by intro hh; injection hh with hh; omega), if_neg e]
    rw [sumN_congr e, sumN_upd (by omega), sumN_zero]; omega
  · rw [sumN_congr (g := fun _ => 0), sumN_zero]
    intro j hj
    unfold hit; rw [hx, if_neg (by intro hh; injection hh with hh; omega)]
theorem hit_col {n j : Nat} {r : List Int} (h : SlotOk n r) : sumN (fun i => hit i j r) n ≤ 1 := by
  have key : ∀ k, k ≤ n → sumN (fun i => hit i j r) k ≤ (if (j : Int) ∈ r.take k then 1 else 0) := by
    intro k
    induction k with
    | zero => intro _; simp [sumN]
    | succ k ih =>
      intro hk
      have ih' := ih (by omega)
      show sumN (fun i => hit i j r) k + hit k j r ≤ _
      have hkl : k < r.length := by rw [h.1]; omega
      have hx : r[k]? = some r[k] := List.getElem?_eq_getElem hkl
      have h1 := h.2 k _ hx
      rw [take_snoc' hx]
      by_cases e : r[k] = (j : Int)
      · have : (j : Int) ∉ r.take k := by rw [← e]; exact h1.2.2 (by omega)
        rw [if_neg this] at ih'
        have e3 : hit k j r = 1 := by unfold hit; rw [hx, e, if_pos rfl]
        rw [e, e3, if_pos (by simp)]; omega
      · have e3 : hit k j r = 0 := by unfold hit; rw [hx, if_neg (by intro hh; injection hh with hh; exact e hh)]
        rw [e3]
        have e2 : ((j : Int) ∈ r.take k ++ [r[k]]) ↔ (j : Int) ∈ r.take k := by
          rw [List.mem_append]; constructor
          · rintro (h | h)
            · exact h
            · simp at h; exact absurd h.symm e
          · exact .inl
        simp only [e2]; omega
  have := key n (Nat.le_refl _)
  split at this <;> omega
theorem cnt_all {n : Nat} {fr : List (List Int)} (h : ∀ r ∈ fr, SlotOk n r) : allS n (cnt fr) = sendsL fr := by
  induction fr with
  | nil => show sumN (fun i => sumN (fun j => cnt [] i j) n) n = 0; simp only [cnt_nil, sumN_zero]
  | cons r fr ih =>
    have hr := h r (by simp)
    rw [sendsL_cons, ← ih (fun s hs => h s (by simp [hs])), sendS_sum hr.1]
    unfold allS
    rw [← sumN_add]
    apply sumN_congr; intro i hi
    rw [← hit_row hr hi]
    unfold rowS
    rw [← sumN_add]
    apply sumN_congr; intro j hj; exact cnt_cons r fr i j
theorem cnt_row {n k : Nat} {fr : List (List Int)} (h : ∀ r ∈ fr, SlotOk n r) (hk : k < n) : rowS n (cnt fr) k ≤ fr.length := by
  induction fr with
  | nil => show sumN (fun j => cnt [] k j) n ≤ _; simp only [cnt_nil, sumN_zero]; simp
  | cons r fr ih =>
    have hr := h r (by simp)
    have e : rowS n (cnt (r :: fr)) k = sumN (fun j => hit k j r) n + rowS n (cnt fr) k := by
      unfold rowS; rw [← sumN_add]; apply sumN_congr; intro j hj; exact cnt_cons r fr k j
    have := ih (fun s hs => h s (by simp [hs]))
    rw [e, hit_row hr hk, List.length_cons]; split <;> omega
theorem cnt_col {n k : Nat} {fr : List (List Int)} (h : ∀ r ∈ fr, SlotOk n r) : colS n (cnt fr) k ≤ fr.length := by
  induction fr with
  | nil => show sumN (fun j => cnt [] j k) n ≤ _; simp only [cnt_nil, sumN_zero]; simp
  | cons r fr ih =>
    have hr := h r (by simp)
    have e : colS n (cnt (r :: fr)) k = sumN (fun i => hit i k r) n + colS n (cnt fr) k := by
      unfold colS; rw [← sumN_add]; apply sumN_congr; intro j hj; exact cnt_cons r fr j k
    have := ih (fun s hs => h s (by simp [hs]))
    have := hit_col (j := k) hr
    rw [e, List.length_cons]; omega
theorem left_all (n : Nat) (f : Nat → Nat → Int) (fr : List (List Int)) : allS n (leftF f fr) = allS n f - allS n (cnt fr) := by
  unfold allS
  rw [← sumN_sub]; apply sumN_congr; intro i hi
  unfold rowS
  rw [← sumN_sub]; rfl
/-- What a frame that is right sends and leaves is together the traffic. -/
theorem frame_all {n : Nat} {f : Nat → Nat → Int} {fr : List (List Int)} (h : ∀ r ∈ fr, SlotOk n r) : allS n (leftF f fr) + sendsL fr = allS n f := by rw [left_all, cnt_all h]; omega
/-- A frame that leaves nothing has at least as many slots as the fullest line units. -/
theorem frame_long {n : Nat} {f : Nat → Nat → Int} {fr : List (List Int)} (h : ∀ r ∈ fr, SlotOk n r) (h0 : ∀ i j, i < n → j < n → cnt fr i j = f i j) : mostF n f ≤ fr.length := by
  rcases mostTo_is n f n with h1 | ⟨i, hi, h1 | h1⟩
  · unfold mostF; omega
  · have h2 := cnt_row h hi
    have h3 : rowS n (cnt fr) i = rowS n f i := sumN_congr fun j hj => h0 i j hi hj
    unfold mostF; omega
  · have h2 := cnt_col (k := i) h
    have h3 : colS n (cnt fr) i = colS n f i := sumN_congr fun j hj => h0 j i hj hi
    unfold mostF; omega
theorem frame_none {n : Nat} {f : Nat → Nat → Int} {fr : List (List Int)} (hle : ∀ i j, i < n → j < n → cnt fr i j ≤ f i j) (h : allS n (leftF f fr) ≤ 0) : ∀ i j, i < n → j < n → cnt fr i j = f i j := by
  have hnn : ∀ i j, i < n → j < n → 0 ≤ leftF f fr i j := fun i j hi hj => by unfold leftF; have := hle i j hi hj; omega
  have hrow : ∀ i, i < n → 0 ≤ rowS n (leftF f fr) i := fun i hi => sumN_nonneg fun j hj => hnn i j hi hj
  have h0 : allS n (leftF f fr) = 0 := by have : 0 ≤ allS n (leftF f fr) := sumN_nonneg hrow; omega
  intro i j hi hj
  have h1 := sumN_eq0 hrow h0 hi
  have h2 := sumN_eq0 (fun j hj => hnn i j hi hj) h1 hj
  unfold leftF at h2; omega
/-- The first place where P holds; -1 if there is none. -/
def pickN (P : Nat → Bool) : Nat → Int
  | 0 => -1
  | k + 1 => if 0 ≤ pickN P k then pickN P k else if P k then (k : Int) else -1
theorem pickN_cases (P : Nat → Bool) (k : Nat) : (pickN P k = -1 ∧ ∀ j, j < k → P j = false) ∨ ∃ v : Nat, pickN P k = v ∧ v < k ∧ P v = true ∧ ∀ j, j < v → P j = false := by
  induction k with
  | zero => exact .inl ⟨rfl, fun j hj => by omega⟩
  | succ k ih =>
    unfold pickN
    rcases ih with ⟨h1, h2⟩ | ⟨v, h1, h2, h3, h4⟩
    · rw [h1, if_neg (by omega)]
      cases hp : P k with
      | true => exact .inr ⟨k, by simp, by omega, hp, h2⟩
      | false =>
        refine .inl ⟨by simp, fun j hj => ?_⟩
        rcases (by omega : j < k ∨ j = k) with h | rfl
        · exact h2 j h
        · exact hp
    · rw [h1, if_pos (by omega)]
      exact .inr ⟨v, rfl, by omega, h3, h4⟩
theorem pickN_bd (P : Nat → Bool) (k : Nat) : -1 ≤ pickN P k ∧ pickN P k < k := by
  rcases pickN_cases P k with ⟨h, _⟩ | ⟨v, h, h1, _⟩ <;> rw [h] <;> omega
theorem pickN_stop {P : Nat → Bool} {v n : Nat} (hv : P v = true) (h : ∀ j, j < v → P j = false) (hn : v < n) : pickN P n = v := by
  rcases pickN_cases P n with ⟨_, h2⟩ | ⟨u, h1, h2, h3, h4⟩
  · rw [h2 v hn] at hv; cases hv
  · rw [h1]
    rcases Nat.lt_trichotomy u v with hlt | rfl | hgt
    · rw [h u hlt] at h3; cases h3
    · rfl
    · rw [h4 v hgt] at hv; cases hv
theorem pickN_none {P : Nat → Bool} {n : Nat} (h : ∀ j, j < n → P j = false) : pickN P n = -1 := by
  rcases pickN_cases P n with ⟨h1, _⟩ | ⟨u, h1, h2, h3, h4⟩
  · exact h1
  · rw [h u h2] at h3; cases h3
/-- The greedy slot. -/
def gFree (L : Nat → Nat → Int) (r : List Int) (k j : Nat) : Bool := decide (0 < L k j) && !decide ((j : Int) ∈ r)
def gS (n : Nat) (L : Nat → Nat → Int) : Nat → List Int
  | 0 => []
  | k + 1 => gS n L k ++ [pickN (gFree L (gS n L k) k) n]
theorem gS_len (n : Nat) (L : Nat → Nat → Int) (k : Nat) : (gS n L k).length = k := by
  induction k with
  | zero => rfl
  | succ k ih => simp [gS, ih]
theorem gS_take (n : Nat) (L : Nat → Nat → Int) {i k : Nat} (h : i ≤ k) : (gS n L k).take i = gS n L i := by
  induction k with
  | zero => obtain rfl : i = 0 := by omega
            rfl
  | succ k ih =>
    rcases (by omega : i ≤ k ∨ i = k + 1) with h1 | rfl
    · show (gS n L k ++ _).take i = _
      rw [List.take_append_of_le_length (by rw [gS_len]; exact h1), ih h1]
    · rw [List.take_of_length_le (by rw [gS_len]; omega)]
theorem gS_at (n : Nat) (L : Nat → Nat → Int) {i k : Nat} (h : i < k) : (gS n L k)[i]? = some (pickN (gFree L (gS n L i) i) n) := by
  have h1 := gS_take n L (i := i + 1) (k := k) (by omega)
  have h2 : ((gS n L k).take (i + 1))[i]? = (gS n L k)[i]? := by rw [List.getElem?_take, if_pos (by omega)]
  rw [← h2, h1]
  show (gS n L i ++ _)[i]? = _
  rw [List.getElem?_append_right (by rw [gS_len]; omega), gS_len]; simp
theorem gS_ok (n : Nat) (L : Nat → Nat → Int) : SlotOk n (gS n L n) := by
  refine ⟨gS_len n L n, fun k x hx => ?_⟩
  have hk : k < n := by have := (List.getElem?_eq_some_iff.1 hx).1; rwa [gS_len] at this
  rw [gS_at n L hk] at hx
  injection hx with hx
  have h1 := pickN_bd (gFree L (gS n L k) k) n
  refine ⟨by omega, by omega, fun h0 => ?_⟩
  rw [gS_take n L (by omega)]
  rcases pickN_cases (gFree L (gS n L k) k) n with ⟨h2, _⟩ | ⟨v, h2, h3, h4, _⟩
  · omega
  · rw [← hx, h2]
    unfold gFree at h4
    simp at h4; exact h4.2
/-- A unit that the slot leaves: the input or the output is busy. -/
theorem gS_max {n : Nat} {L : Nat → Nat → Int} {i j : Nat} (hi : i < n) (hj : j < n) (hL : 0 < L i j) : 0 ≤ (gS n L n).getD i (-1) ∨ (j : Int) ∈ gS n L n := by
  have h1 := gS_at n L hi
  rw [List.getD_eq_getElem?_getD, h1, Option.getD_some]
  rcases pickN_cases (gFree L (gS n L i) i) n with ⟨h2, h3⟩ | ⟨v, h2, h3, h4, _⟩
  · right
    have h4 := h3 j hj
    unfold gFree at h4
    simp [hL] at h4
    rw [← gS_take n L (Nat.le_of_lt hi)] at h4
    exact List.mem_of_mem_take h4
  · left; rw [h2]; omega
theorem gS_hit {n : Nat} {L : Nat → Nat → Int} {i j : Nat} (hi : i < n) : hit i j (gS n L n) = 1 → 0 < L i j := by
  unfold hit
  rw [gS_at n L hi]
  intro h
  split at h
  · rename_i h1
    injection h1 with h1
    rcases pickN_cases (gFree L (gS n L i) i) n with ⟨h2, _⟩ | ⟨v, h2, h3, h4, _⟩
    · omega
    · rw [h2] at h1
      have : v = j := by omega
      subst this
      unfold gFree at h4; simp at h4; exact h4.1
  · omega
/-- What is left behind so many greedy slots, and these slots. -/
def gL (n : Nat) (f : Nat → Nat → Int) : Nat → Nat → Nat → Int
  | 0 => f
  | s + 1 => fun i j => gL n f s i j - hit i j (gS n (gL n f s) n)
def gFr (n : Nat) (f : Nat → Nat → Int) (s : Nat) : List (List Int) := (List.range s).map fun t => gS n (gL n f t) n
theorem gFr_len (n : Nat) (f : Nat → Nat → Int) (s : Nat) : (gFr n f s).length = s := by simp [gFr]
theorem gFr_succ (n : Nat) (f : Nat → Nat → Int) (s : Nat) : gFr n f (s + 1) = gFr n f s ++ [gS n (gL n f s) n] := by simp [gFr, List.range_succ]
theorem gFr_ok (n : Nat) (f : Nat → Nat → Int) (s : Nat) : ∀ r ∈ gFr n f s, SlotOk n r := by
  intro r hr
  unfold gFr at hr
  obtain ⟨t, _, rfl⟩ := List.mem_map.1 hr
  exact gS_ok n _
theorem gL_left (n : Nat) (f : Nat → Nat → Int) (s i j : Nat) : gL n f s i j = leftF f (gFr n f s) i j := by
  induction s with
  | zero => simp [gL, leftF, gFr, cnt]
  | succ s ih => rw [gFr_succ]; unfold leftF; rw [cnt_snoc]; show gL n f s i j - _ = _; rw [ih]; unfold leftF; omega
theorem gL_bd {n : Nat} {f : Nat → Nat → Int} {hi : Int} (h : Bd n f 0 hi) (s : Nat) : Bd n (gL n f s) 0 hi := by
  induction s with
  | zero => exact h
  | succ s ih =>
    intro i j h1 h2
    have h3 := ih i j h1 h2
    have h4 := hit_bd i j (gS n (gL n f s) n)
    show 0 ≤ gL n f s i j - _ ∧ gL n f s i j - _ ≤ _
    by_cases e : hit i j (gS n (gL n f s) n) = 1
    · have := gS_hit (L := gL n f s) h1 e; omega
    · omega
theorem gL_all (n : Nat) (f : Nat → Nat → Int) (s : Nat) : allS n (gL n f (s + 1)) = allS n (gL n f s) - sendS (gS n (gL n f s) n) := by
  have h1 : allS n (gL n f s) = allS n f - sendsL (gFr n f s) := by
    have : allS n (gL n f s) = allS n (leftF f (gFr n f s)) := sumN_congr fun i _ => sumN_congr fun j _ => gL_left n f s i j
    have h2 := frame_all (f := f) (gFr_ok n f s); omega
  have h2 : allS n (gL n f (s + 1)) = allS n f - sendsL (gFr n f (s + 1)) := by
    have : allS n (gL n f (s + 1)) = allS n (leftF f (gFr n f (s + 1))) := sumN_congr fun i _ => sumN_congr fun j _ => gL_left n f (s + 1) i j
    have h2 := frame_all (f := f) (gFr_ok n f (s + 1)); omega
  rw [gFr_succ, sendsL_snoc] at h2; omega
theorem gL_less {n : Nat} {f : Nat → Nat → Int} {hi : Int} (h : Bd n f 0 hi) {s : Nat} (hs : 0 < allS n (gL n f s)) : allS n (gL n f (s + 1)) < allS n (gL n f s) := by
  rw [gL_all]
  obtain ⟨i, hi, h1⟩ := sumN_pos hs
  obtain ⟨j, hj, h2⟩ := sumN_pos h1
  have h3 := gS_max hi hj h2
  have hok := gS_ok n (gL n f s)
  have hge : ∀ i, i < n → (0 : Int) ≤ (if 0 ≤ (gS n (gL n f s) n).getD i (-1) then 1 else 0) := fun i _ => by split <;> omega
  have key : ∃ k, k < n ∧ 0 ≤ (gS n (gL n f s) n).getD k (-1) := by
    rcases h3 with h3 | h3
    · exact ⟨i, hi, h3⟩
    · obtain ⟨k, hk⟩ := List.getElem?_of_mem h3
      have hkn : k < n := by have := (List.getElem?_eq_some_iff.1 hk).1; rwa [gS_len] at this
      exact ⟨k, hkn, by rw [List.getD_eq_getElem?_getD, hk, Option.getD_some]; omega⟩
  obtain ⟨k, hk, h4⟩ := key
  have h5 := sumN_ge hge hk
  rw [if_pos h4, ← sendS_sum hok.1] at h5
  omega
/-- The greedy frame has so many slots. -/
def GEnd (n : Nat) (f : Nat → Nat → Int) (s : Nat) : Prop := allS n (gL n f s) ≤ 0 ∧ ∀ t, t < s → 0 < allS n (gL n f t)
theorem GEnd.uniq {n : Nat} {f : Nat → Nat → Int} {s t : Nat} (h : GEnd n f s) (k : GEnd n f t) : s = t := by
  rcases Nat.lt_trichotomy s t with h1 | h1 | h1
  · have := k.2 s h1; have := h.1; omega
  · exact h1
  · have := h.2 t h1; have := k.1; omega
/-- Fewer than twice as many as the fullest line. -/
theorem g_short {n : Nat} {f : Nat → Nat → Int} {hi : Int} (hb : Bd n f 0 hi) {s : Nat} (h : GEnd n f (s + 1)) : (s : Int) + 1 < 2 * mostF n f := by
  have hpos := h.2 s (by omega)
  obtain ⟨i, hi, h1⟩ := sumN_pos hpos
  obtain ⟨j, hj, h2⟩ := sumN_pos h1
  have h2' : 0 < gL n f s i j := h2
  have hmono : ∀ t, t ≤ s → 0 < gL n f t i j := by
    intro t ht
    obtain ⟨d, rfl⟩ : ∃ d, s = t + d := ⟨s - t, by omega⟩
    clear hpos h1 h2 h
    induction d with
    | zero => exact h2'
    | succ d ih =>
      have e : gL n f (t + (d + 1)) i j = gL n f (t + d) i j - hit i j (gS n (gL n f (t + d)) n) := rfl
      have := (hit_bd i j (gS n (gL n f (t + d)) n)).1
      exact ih (by omega) (by omega)
  -- each slot uses the input or the output; the last one sends the unit itself
  have hlast : cnt (gFr n f (s + 1)) i j = f i j := frame_none (f := f) (fun a b ha hb' => by
    have := (gL_bd hb (s + 1) a b ha hb').1; rw [gL_left] at this; unfold leftF at this; omega) (by
    have : allS n (gL n f (s + 1)) = allS n (leftF f (gFr n f (s + 1))) := sumN_congr fun a _ => sumN_congr fun b _ => gL_left n f (s + 1) a b
    have := h.1; omega) i j hi hj
  have key : ∀ t, t ≤ s + 1 → (t : Int) + cnt (gFr n f t) i j ≤ rowS n (cnt (gFr n f t)) i + colS n (cnt (gFr n f t)) j := by
    intro t
    induction t with
    | zero =>
      intro _
      have e1 : rowS n (cnt (gFr n f 0)) i = 0 := by show sumN (fun b => cnt [] i b) n = 0; simp only [cnt_nil, sumN_zero]
      have e2 : colS n (cnt (gFr n f 0)) j = 0 := by show sumN (fun b => cnt [] b j) n = 0; simp only [cnt_nil, sumN_zero]
      rw [e1, e2]; simp [gFr, cnt]
    | succ t ih =>
      intro ht
      have ih' := ih (by omega)
      have hok := gS_ok n (gL n f t)
      have e1 : rowS n (cnt (gFr n f (t + 1))) i = rowS n (cnt (gFr n f t)) i + sumN (fun b => hit i b (gS n (gL n f t) n)) n := by
        unfold rowS; rw [← sumN_add]; apply sumN_congr; intro b _; rw [gFr_succ, cnt_snoc]
      have e2 : colS n (cnt (gFr n f (t + 1))) j = colS n (cnt (gFr n f t)) j + sumN (fun b => hit b j (gS n (gL n f t) n)) n := by
        unfold colS; rw [← sumN_add]; apply sumN_congr; intro b _; rw [gFr_succ, cnt_snoc]
      rw [e1, e2, hit_row hok hi, gFr_succ, cnt_snoc]
      have hcol : ∀ k, k < n → hit k j (gS n (gL n f t) n) ≤ sumN (fun b => hit b j (gS n (gL n f t) n)) n := fun k hk => sumN_ge (f := fun b => hit b j (gS n (gL n f t) n)) (fun a _ => (hit_bd a j _).1) hk
      have hh := hit_bd i j (gS n (gL n f t) n)
      have hci := hcol i hi
      have hc0 : 0 ≤ sumN (fun b => hit b j (gS n (gL n f t) n)) n := sumN_nonneg fun a _ => (hit_bd a j _).1
      by_cases hx : hit i j (gS n (gL n f t) n) = 1
      · have hxr : (gS n (gL n f t) n)[i]? = some (j : Int) := by
          unfold hit at hx; split at hx
          · assumption
          · omega
        rw [List.getD_eq_getElem?_getD, hxr, Option.getD_some, if_pos (by omega)]
        omega
      · rcases gS_max hi hj (hmono t (by omega)) with h3 | h3
        · rw [if_pos h3]; omega
        · obtain ⟨k, hk⟩ := List.getElem?_of_mem h3
          have hkn : k < n := by have := (List.getElem?_eq_some_iff.1 hk).1; rwa [gS_len] at this
          have h4 := hcol k hkn
          have h5 : hit k j (gS n (gL n f t) n) = 1 := by unfold hit; rw [if_pos hk]
          split <;> omega
  have h3 := key (s + 1) (Nat.le_refl _)
  have hle : ∀ a b, a < n → b < n → cnt (gFr n f (s + 1)) a b ≤ f a b := fun a b ha hb' => by
    have := (gL_bd hb (s + 1) a b ha hb').1; rw [gL_left] at this; unfold leftF at this; omega
  have h4 : rowS n (cnt (gFr n f (s + 1))) i ≤ rowS n f i := sumN_le fun b hb' => hle i b hi hb'
  have h5 : colS n (cnt (gFr n f (s + 1))) j ≤ colS n f j := sumN_le fun a ha => hle a j ha hj
  have h6 := mostTo_ge n f hi
  have h7 := mostTo_ge n f hj
  have h8 : 0 < f i j := hmono 0 (by omega)
  unfold mostF
  rw [hlast] at h3
  omega
theorem g_none {n : Nat} {f : Nat → Nat → Int} {hi : Int} (hb : Bd n f 0 hi) {s : Nat} (h : GEnd n f s) : ∀ i j, i < n → j < n → cnt (gFr n f s) i j = f i j :=
  frame_none (f := f) (fun a b ha hb' => by have := (gL_bd hb s a b ha hb').1; rw [gL_left] at this; unfold leftF at this; omega) (by
    have : allS n (gL n f s) = allS n (leftF f (gFr n f s)) := sumN_congr fun a _ => sumN_congr fun b _ => gL_left n f s a b
    have := h.1; omega)
theorem g_sends {n : Nat} {f : Nat → Nat → Int} {hi : Int} (hb : Bd n f 0 hi) {s : Nat} (h : GEnd n f s) : sendsL (gFr n f s) = allS n f := by
  have h1 := frame_all (f := f) (gFr_ok n f s)
  have h2 : allS n (leftF f (gFr n f s)) = 0 := by
    unfold allS
    rw [sumN_congr (g := fun _ => 0), sumN_zero]
    intro i hi
    unfold rowS
    rw [sumN_congr (g := fun _ => 0), sumN_zero]
    intro j hj
    unfold leftF; have := g_none hb h i j hi hj; omega
  omega
theorem g_long {n : Nat} {f : Nat → Nat → Int} {hi : Int} (hb : Bd n f 0 hi) {s : Nat} (h : GEnd n f s) : mostF n f ≤ s := by
  have := frame_long (gFr_ok n f s) (g_none hb h); rwa [gFr_len] at this
end Go.Proofs.Ythfjlellaojdmaa
