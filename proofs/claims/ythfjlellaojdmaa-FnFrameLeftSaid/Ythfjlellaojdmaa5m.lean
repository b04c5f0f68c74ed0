/- The plain mathematics of tables: rows and columns, their sums, the fullest line, and filling up. No condition. -/
import Derived.Test.YthfjlellaojdmaaPlain
namespace Go.Proofs.Ythfjlellaojdmaa
set_option linter.unusedSimpArgs false
set_option linter.unusedVariables false
/-- The list of the numbers f 0 to f (n - 1), and the table of n rows and n columns. -/
def rowF (n : Nat) (f : Nat → Int) : List Int := (List.range n).map f
def tabF (n : Nat) (f : Nat → Nat → Int) : List (List Int) := (List.range n).map fun i => rowF n (f i)
theorem rowF_len (n : Nat) (f : Nat → Int) : (rowF n f).length = n := by simp [rowF]
theorem tabF_len (n : Nat) (f : Nat → Nat → Int) : (tabF n f).length = n := by simp [tabF]
theorem rowF_at {n k : Nat} {f : Nat → Int} (h : k < n) : (rowF n f)[k]? = some (f k) := by simp [rowF, h]
theorem tabF_at {n k : Nat} {f : Nat → Nat → Int} (h : k < n) : (tabF n f)[k]? = some (rowF n (f k)) := by simp [tabF, h]
theorem rowF_congr {n : Nat} {f g : Nat → Int} (h : ∀ i, i < n → f i = g i) : rowF n f = rowF n g := by
  unfold rowF; apply List.map_congr_left; intro i hi; exact h i (List.mem_range.1 hi)
theorem tabF_congr {n : Nat} {f g : Nat → Nat → Int} (h : ∀ i j, i < n → j < n → f i j = g i j) : tabF n f = tabF n g := by
  unfold tabF; apply List.map_congr_left; intro i hi; exact rowF_congr fun j hj => h i j (List.mem_range.1 hi) hj
theorem rowF_inj {n : Nat} {f g : Nat → Int} (h : rowF n f = rowF n g) {i : Nat} (hi : i < n) : f i = g i := by
  have h1 := rowF_at (f := f) hi
  rw [h, rowF_at hi] at h1; injection h1 with h1; exact h1.symm
theorem tabF_inj {n : Nat} {f g : Nat → Nat → Int} (h : tabF n f = tabF n g) {i j : Nat} (hi : i < n) (hj : j < n) : f i j = g i j := by
  have h1 := tabF_at (f := f) hi
  rw [h, tabF_at hi] at h1; injection h1 with h1; exact (rowF_inj h1 hj).symm
def upd1 (f : Nat → Int) (k : Nat) (v : Int) (a : Nat) : Int := if a = k then v else f a
def upd (f : Nat → Nat → Int) (k j : Nat) (v : Int) (a b : Nat) : Int := if a = k ∧ b = j then v else f a b
theorem upd1_same (f : Nat → Int) (k : Nat) (v : Int) : upd1 f k v k = v := by simp [upd1]
theorem upd1_ne (f : Nat → Int) {k a : Nat} (v : Int) (h : a ≠ k) : upd1 f k v a = f a := by simp [upd1, h]
theorem upd_same (f : Nat → Nat → Int) (k j : Nat) (v : Int) : upd f k j v k j = v := by simp [upd]
theorem upd_row (f : Nat → Nat → Int) (k j : Nat) (v : Int) : upd f k j v k = upd1 (f k) j v := by funext b; simp [upd, upd1]
theorem upd_ne (f : Nat → Nat → Int) {k j a : Nat} (v : Int) (h : a ≠ k) : upd f k j v a = f a := by funext b; simp [upd, h]
theorem rowF_set {n k : Nat} {f : Nat → Int} {v : Int} (h : k < n) : (rowF n f).set k v = rowF n (upd1 f k v) := by
  apply List.ext_getElem?
  intro i
  rw [List.getElem?_set]
  by_cases hi : i < n
  · rw [rowF_at hi, rowF_at hi, rowF_len]
    by_cases e : k = i
    · subst e; simp [h, upd1]
    · rw [if_neg e, upd1_ne f v (fun h => e h.symm)]
  · rw [List.getElem?_eq_none (by rw [rowF_len]; omega), List.getElem?_eq_none (by rw [rowF_len]; omega), if_neg (by omega)]
theorem tabF_set {n k j : Nat} {f : Nat → Nat → Int} {v : Int} (h : k < n) (hj : j < n) : (tabF n f).set k ((rowF n (f k)).set j v) = tabF n (upd f k j v) := by
  rw [rowF_set hj]
  apply List.ext_getElem?
  intro i
  rw [List.getElem?_set]
  by_cases hi : i < n
  · rw [tabF_at hi, tabF_at hi, tabF_len]
    by_cases e : k = i
    · subst e; simp [h, upd_row]
    · rw [if_neg e, upd_ne f v (fun h => e h.symm)]
  · rw [List.getElem?_eq_none (by rw [tabF_len]; omega), List.getElem?_eq_none (by rw [tabF_len]; omega), if_neg (by omega)]
/-- Sums. -/
def sumN (f : Nat → Int) : Nat → Int
  | 0 => 0
  | k + 1 => sumN f k + f k
theorem sumN_congr {f g : Nat → Int} {n : Nat} (h : ∀ i, i < n → f i = g i) : sumN f n = sumN g n := by
  induction n with
  | zero => rfl
  | succ n ih => show _ + _ = _ + _; rw [ih (fun i hi => h i (by omega)), h n (by omega)]
theorem sumN_add (f g : Nat → Int) (n : Nat) : sumN (fun i => f i + g i) n = sumN f n + sumN g n := by
  induction n with
  | zero => rfl
  | succ n ih =>
    have e : sumN (fun i => f i + g i) (n + 1) = sumN (fun i => f i + g i) n + (f n + g n) := rfl
    rw [e, ih]; show _ = (_ + f n) + (_ + g n); omega
theorem sumN_sub (f g : Nat → Int) (n : Nat) : sumN (fun i => f i - g i) n = sumN f n - sumN g n := by
  induction n with
  | zero => rfl
  | succ n ih =>
    have e : sumN (fun i => f i - g i) (n + 1) = sumN (fun i => f i - g i) n + (f n - g n) := rfl
    rw [e, ih]; show _ = (_ + f n) - (_ + g n); omega
theorem sumN_const (c : Int) (n : Nat) : sumN (fun _ => c) n = c * n := by
  induction n with
  | zero => simp [sumN]
  | succ n ih => show _ + _ = _; rw [ih, Int.natCast_add, Int.mul_add]; simp
theorem sumN_zero (n : Nat) : sumN (fun _ => 0) n = 0 := by rw [sumN_const]; simp
theorem sumN_le {f g : Nat → Int} {n : Nat} (h : ∀ i, i < n → f i ≤ g i) : sumN f n ≤ sumN g n := by
  induction n with
  | zero => exact Int.le_refl _
  | succ n ih => show _ + _ ≤ _ + _; have := ih (fun i hi => h i (by omega)); have := h n (by omega); omega
theorem sumN_nonneg {f : Nat → Int} {n : Nat} (h : ∀ i, i < n → 0 ≤ f i) : 0 ≤ sumN f n := by
  have := sumN_le (f := fun _ => 0) h; rwa [sumN_zero] at this
theorem sumN_ge {f : Nat → Int} {n i : Nat} (h : ∀ i, i < n → 0 ≤ f i) (hi : i < n) : f i ≤ sumN f n := by
  induction n with
  | zero => omega
  | succ n ih =>
    show _ ≤ _ + _
    rcases (by omega : i < n ∨ i = n) with h1 | rfl
    · have := ih (fun i hi => h i (by omega)) h1; have := h n (by omega); omega
    · have := sumN_nonneg (f := f) (n := i) (fun i hi => h i (by omega)); omega
theorem sumN_bd {f : Nat → Int} {n : Nat} {c : Int} (h : ∀ i, i < n → f i ≤ c) : sumN f n ≤ c * n := by
  have := sumN_le (g := fun _ => c) h; rwa [sumN_const] at this
theorem sumN_eq0 {f : Nat → Int} {n i : Nat} (h : ∀ i, i < n → 0 ≤ f i) (hs : sumN f n = 0) (hi : i < n) : f i = 0 := by
  have := sumN_ge h hi; have := h i hi; omega
theorem sumN_pos {f : Nat → Int} {n : Nat} (h : 0 < sumN f n) : ∃ i, i < n ∧ 0 < f i := by
  induction n with
  | zero => simp [sumN] at h
  | succ n ih =>
    by_cases h1 : 0 < f n
    · exact ⟨n, by omega, h1⟩
    · have h2 : 0 < sumN f n + f n := h
      obtain ⟨i, hi, h3⟩ := ih (by omega)
      exact ⟨i, by omega, h3⟩
theorem sumN_upd {f : Nat → Int} {n k : Nat} {v : Int} (h : k < n) : sumN (upd1 f k v) n = sumN f n - f k + v := by
  induction n with
  | zero => omega
  | succ n ih =>
    show _ + _ = _ + _ - _ + _
    rcases (by omega : k < n ∨ k = n) with h1 | rfl
    · rw [ih h1, upd1_ne f v (by omega)]; omega
    · rw [upd1_same, sumN_congr (g := f) (fun i hi => upd1_ne f v (by omega))]; omega
theorem sumN_swap (f : Nat → Nat → Int) (n m : Nat) : sumN (fun i => sumN (f i) m) n = sumN (fun j => sumN (fun i => f i j) n) m := by
  induction n with
  | zero => show 0 = _; rw [← sumN_zero m]; rfl
  | succ n ih =>
    show _ + _ = _
    rw [ih, ← sumN_add]; rfl
def rowS (n : Nat) (f : Nat → Nat → Int) (k : Nat) : Int := sumN (f k) n
def colS (n : Nat) (f : Nat → Nat → Int) (j : Nat) : Int := sumN (fun i => f i j) n
def allS (n : Nat) (f : Nat → Nat → Int) : Int := sumN (rowS n f) n
theorem all_col (n : Nat) (f : Nat → Nat → Int) : allS n f = sumN (colS n f) n := sumN_swap f n n
theorem rowS_upd {n k j : Nat} {f : Nat → Nat → Int} {v : Int} (hj : j < n) (a : Nat) : rowS n (upd f k j v) a = if a = k then rowS n f a - f k j + v else rowS n f a := by
  unfold rowS
  by_cases h : a = k
  · subst h; rw [if_pos rfl, upd_row, sumN_upd hj]
  · rw [if_neg h, upd_ne f v h]
theorem colS_upd {n k j : Nat} {f : Nat → Nat → Int} {v : Int} (hk : k < n) (b : Nat) : colS n (upd f k j v) b = if b = j then colS n f b - f k j + v else colS n f b := by
  unfold colS
  by_cases h : b = j
  · subst h
    rw [if_pos rfl, ← sumN_upd (f := fun i => f i b) hk]
    apply sumN_congr; intro i hi; simp [upd, upd1]
  · rw [if_neg h]
    apply sumN_congr; intro i hi; simp [upd, h]
theorem allS_upd {n k j : Nat} {f : Nat → Nat → Int} {v : Int} (hk : k < n) (hj : j < n) : allS n (upd f k j v) = allS n f - f k j + v := by
  unfold allS
  have h : sumN (rowS n (upd f k j v)) n = sumN (upd1 (rowS n f) k (rowS n f k - f k j + v)) n := sumN_congr fun i hi => by rw [rowS_upd hj]; unfold upd1; split <;> simp_all
  rw [h, sumN_upd hk]; omega
/-- The fullest of the first k lines. -/
def mostTo (n : Nat) (f : Nat → Nat → Int) : Nat → Int
  | 0 => 0
  | k + 1 => max (max (mostTo n f k) (rowS n f k)) (colS n f k)
def mostF (n : Nat) (f : Nat → Nat → Int) : Int := mostTo n f n
theorem mostTo_nonneg (n : Nat) (f : Nat → Nat → Int) (k : Nat) : 0 ≤ mostTo n f k := by
  induction k with
  | zero => exact Int.le_refl _
  | succ k ih => show 0 ≤ max (max _ _) _; omega
theorem mostTo_ge (n : Nat) (f : Nat → Nat → Int) {k i : Nat} (h : i < k) : rowS n f i ≤ mostTo n f k ∧ colS n f i ≤ mostTo n f k := by
  induction k with
  | zero => omega
  | succ k ih =>
    show _ ≤ max (max _ _) _ ∧ _ ≤ max (max _ _) _
    rcases (by omega : i < k ∨ i = k) with h1 | rfl
    · have := ih h1; omega
    · omega
theorem mostTo_is (n : Nat) (f : Nat → Nat → Int) (k : Nat) : mostTo n f k = 0 ∨ ∃ i, i < k ∧ (rowS n f i = mostTo n f k ∨ colS n f i = mostTo n f k) := by
  induction k with
  | zero => exact .inl rfl
  | succ k ih =>
    have e : mostTo n f (k + 1) = max (max (mostTo n f k) (rowS n f k)) (colS n f k) := rfl
    by_cases h1 : mostTo n f (k + 1) = colS n f k
    · exact .inr ⟨k, by omega, .inr h1.symm⟩
    · by_cases h2 : mostTo n f (k + 1) = rowS n f k
      · exact .inr ⟨k, by omega, .inl h2.symm⟩
      · have h3 : mostTo n f (k + 1) = mostTo n f k := by omega
        rw [h3]
        rcases ih with h | ⟨i, hi, h⟩
        · exact .inl h
        · exact .inr ⟨i, by omega, h⟩
/-- Valid traffic. -/
def TrafOk (t : List (List Int)) : Prop := t.length ≤ 6 ∧ ∀ r ∈ t, r.length = t.length ∧ ∀ x ∈ r, 0 ≤ x ∧ x ≤ 6
def fOf (t : List (List Int)) (i j : Nat) : Int := (t.getD i []).getD j 0
theorem fOf_at {t : List (List Int)} {i j : Nat} {r : List Int} {x : Int} (h : t[i]? = some r) (hx : r[j]? = some x) : fOf t i j = x := by
  unfold fOf; rw [List.getD_eq_getElem?_getD, List.getD_eq_getElem?_getD, h, Option.getD_some, hx, Option.getD_some]
theorem square_tab {t : List (List Int)} {n : Nat} (hl : t.length = n) (h : ∀ r ∈ t, r.length = n) : t = tabF n (fOf t) := by
  apply List.ext_getElem?
  intro i
  by_cases hi : i < n
  · rw [tabF_at hi, List.getElem?_eq_getElem (by omega)]
    congr 1
    have hr := h t[i] (List.getElem_mem _)
    apply List.ext_getElem?
    intro j
    by_cases hj : j < n
    · rw [rowF_at hj, List.getElem?_eq_getElem (by omega)]
      congr 1
      exact (fOf_at (List.getElem?_eq_getElem _) (List.getElem?_eq_getElem _)).symm
    · rw [List.getElem?_eq_none (by omega), List.getElem?_eq_none (by rw [rowF_len]; omega)]
  · rw [List.getElem?_eq_none (by omega), List.getElem?_eq_none (by rw [tabF_len]; omega)]
theorem TrafOk.tab {t : List (List Int)} (h : TrafOk t) : t = tabF t.length (fOf t) := square_tab rfl fun r hr => (h.2 r hr).1
theorem TrafOk.bd {t : List (List Int)} (h : TrafOk t) (i j : Nat) : 0 ≤ fOf t i j ∧ fOf t i j ≤ 6 := by
  unfold fOf
  rw [List.getD_eq_getElem?_getD, List.getD_eq_getElem?_getD]
  cases hi : t[i]? with
  | none => simp
  | some r =>
    rw [Option.getD_some]
    cases hj : r[j]? with
    | none => simp
    | some x => rw [Option.getD_some]; exact (h.2 r (List.mem_of_getElem? hi)).2 x (List.mem_of_getElem? hj)
theorem tabF_ok {n : Nat} {f : Nat → Nat → Int} : TrafOk (tabF n f) ↔ n ≤ 6 ∧ ∀ i j, i < n → j < n → 0 ≤ f i j ∧ f i j ≤ 6 := by
  unfold TrafOk
  rw [tabF_len]
  constructor
  · rintro ⟨h1, h2⟩
    refine ⟨h1, fun i j hi hj => ?_⟩
    exact (h2 _ (List.mem_of_getElem? (tabF_at hi))).2 _ (List.mem_of_getElem? (rowF_at hj))
  · rintro ⟨h1, h2⟩
    refine ⟨h1, fun r hr => ?_⟩
    obtain ⟨i, hi⟩ := List.getElem?_of_mem hr
    have hil : i < n := by have := (List.getElem?_eq_some_iff.1 hi).1; rwa [tabF_len] at this
    rw [tabF_at hil] at hi; injection hi with hi; subst hi
    refine ⟨rowF_len _ _, fun x hx => ?_⟩
    obtain ⟨j, hj⟩ := List.getElem?_of_mem hx
    have hjl : j < n := by have := (List.getElem?_eq_some_iff.1 hj).1; rwa [rowF_len] at this
    rw [rowF_at hjl] at hj; injection hj with hj; subst hj
    exact h2 i j hil hjl
/-- Small numbers everywhere. -/
def Bd (n : Nat) (f : Nat → Nat → Int) (lo hi : Int) : Prop := ∀ i j, i < n → j < n → lo ≤ f i j ∧ f i j ≤ hi
theorem sumN_between {f : Nat → Int} {n k : Nat} {lo hi : Int} (h : ∀ i, i < n → lo ≤ f i ∧ f i ≤ hi) (hk : k ≤ n) : lo * k ≤ sumN f k ∧ sumN f k ≤ hi * k := by
  constructor
  · have := sumN_le (f := fun _ => lo) (g := f) (n := k) fun i hi => (h i (by omega)).1
    rwa [sumN_const] at this
  · exact sumN_bd fun i hi => (h i (by omega)).2
theorem most_bd {n : Nat} {f : Nat → Nat → Int} (hn : n ≤ 6) (h : ∀ i j, i < n → j < n → 0 ≤ f i j ∧ f i j ≤ 6) : 0 ≤ mostF n f ∧ mostF n f ≤ 36 := by
  refine ⟨mostTo_nonneg _ _ _, ?_⟩
  rcases mostTo_is n f n with h1 | ⟨i, hi, h1 | h1⟩
  · unfold mostF; omega
  · have := (sumN_between (f := f i) (n := n) (k := n) (fun j hj => h i j hi hj) (Nat.le_refl _)).2
    unfold rowS at h1; unfold mostF; omega
  · have := (sumN_between (f := fun j => f j i) (n := n) (k := n) (fun j hj => h j i hj hi) (Nat.le_refl _)).2
    unfold colS at h1; unfold mostF; omega
/-- All rows and all columns have the same sum. -/
def EvenF (n : Nat) (f : Nat → Nat → Int) : Prop := ∀ k, k < n → rowS n f k = mostF n f ∧ colS n f k = mostF n f
theorem even_of {n : Nat} {f : Nat → Nat → Int} {s : Int} (h0 : ∀ i j, i < n → j < n → 0 ≤ f i j) (h : ∀ k, k < n → rowS n f k = s ∧ colS n f k = s) : EvenF n f := by
  intro k hk
  have hr : 0 ≤ rowS n f k := sumN_nonneg fun j hj => h0 k j hk hj
  have h2 := mostTo_ge n f hk
  have h3 := h k hk
  rcases mostTo_is n f n with h1 | ⟨i, hi, h1⟩
  · unfold mostF; omega
  · have := h i hi
    unfold mostF; omega
/-- How much room the row k and the column j have when y is filled up. -/
def roomR (n : Nat) (f : Nat → Nat → Int) (M : Int) (y : Nat → Nat → Int) (k : Nat) : Int := M - rowS n f k - rowS n y k
def roomC (n : Nat) (f : Nat → Nat → Int) (M : Int) (y : Nat → Nat → Int) (j : Nat) : Int := M - colS n f j - colS n y j
def fillJ (n : Nat) (f : Nat → Nat → Int) (M : Int) (x : Nat → Nat → Int) (k : Nat) : Nat → Nat → Nat → Int
  | 0 => x
  | j + 1 => upd (fillJ n f M x k j) k j (min (roomR n f M (fillJ n f M x k j) k) (roomC n f M (fillJ n f M x k j) j))
def fillK (n : Nat) (f : Nat → Nat → Int) (M : Int) : Nat → Nat → Nat → Int
  | 0 => fun _ _ => 0
  | k + 1 => fillJ n f M (fillK n f M k) k n
/-- What is filled up. -/
def fillF (n : Nat) (f : Nat → Nat → Int) : Nat → Nat → Int := fillK n f (mostF n f) n
/-- What holds when all cells ahead of (k, j) are filled. -/
structure FillInv (n : Nat) (f : Nat → Nat → Int) (M : Int) (y : Nat → Nat → Int) (k j : Nat) : Prop where
  pos : ∀ a b, a < n → b < n → 0 ≤ y a b
  new : ∀ a b, a < n → b < n → (k < a ∨ (a = k ∧ j ≤ b)) → y a b = 0
  rr : ∀ a, a < n → 0 ≤ roomR n f M y a
  rc : ∀ b, b < n → 0 ≤ roomC n f M y b
  full : ∀ a, a < k → a < n → roomR n f M y a = 0 ∨ ∀ b, b < n → roomC n f M y b = 0
  row : k < n → roomR n f M y k = 0 ∨ ∀ b, b < j → b < n → roomC n f M y b = 0
theorem fill_cell {n : Nat} {f : Nat → Nat → Int} {M : Int} {y : Nat → Nat → Int} {k j : Nat} (h : FillInv n f M y k j) (hk : k < n) (hj : j < n) :
    FillInv n f M (upd y k j (min (roomR n f M y k) (roomC n f M y j))) k (j + 1) := by
  have e0 := h.new k j hk hj (.inr ⟨rfl, Nat.le_refl _⟩)
  have r0 := h.rr k hk
  have c0 := h.rc j hj
  generalize hv : min (roomR n f M y k) (roomC n f M y j) = v
  have eR : ∀ a, roomR n f M (upd y k j v) a = if a = k then roomR n f M y a - v else roomR n f M y a := fun a => by
    unfold roomR; rw [rowS_upd hj]; split
    · subst_vars; omega
    · rfl
  have eC : ∀ b, roomC n f M (upd y k j v) b = if b = j then roomC n f M y b - v else roomC n f M y b := fun b => by
    unfold roomC; rw [colS_upd hk]; split
    · subst_vars; omega
    · rfl
  refine ⟨fun a b ha hb => ?_, fun a b ha hb hab => ?_, fun a ha => ?_, fun b hb => ?_, fun a ha ha' => ?_, fun _ => ?_⟩
  · unfold upd; split
    · omega
    · exact h.pos a b ha hb
  · unfold upd; rw [if_neg (by omega)]; exact h.new a b ha hb (by omega)
  · rw [eR]; split
    · subst_vars; omega
    · exact h.rr a ha
  · rw [eC]; split
    · subst_vars; omega
    · exact h.rc b hb
  · rw [eR, if_neg (by omega)]
    rcases h.full a ha ha' with h1 | h1
    · exact .inl h1
    · refine .inr fun b hb => ?_
      have h2 := h1 b hb
      have h3 := h1 j hj
      rw [eC]; split
      · subst_vars; omega
      · exact h2
  · rw [eR, if_pos rfl]
    rcases h.row hk with h1 | h1
    · left; omega
    · by_cases hz : roomR n f M y k - v = 0
      · exact .inl hz
      · refine .inr fun b hb hb' => ?_
        rw [eC]
        by_cases e : b = j
        · subst e; rw [if_pos rfl]; omega
        · rw [if_neg e]; exact h1 b (by omega) hb'
theorem fill_row {n : Nat} {f : Nat → Nat → Int} {M : Int} {y : Nat → Nat → Int} {k : Nat} (h : FillInv n f M y k 0) (hk : k < n) : ∀ j, j ≤ n → FillInv n f M (fillJ n f M y k j) k j := by
  intro j
  induction j with
  | zero => intro _; exact h
  | succ j ih => intro hj; exact fill_cell (ih (by omega)) hk (by omega)
theorem fill_next {n : Nat} {f : Nat → Nat → Int} {M : Int} {y : Nat → Nat → Int} {k : Nat} (h : FillInv n f M y k n) (hk : k < n) : FillInv n f M y (k + 1) 0 := by
  refine ⟨h.pos, fun a b ha hb hab => h.new a b ha hb (by omega), h.rr, h.rc, fun a ha ha' => ?_, fun _ => .inr fun b hb => by omega⟩
  rcases (by omega : a < k ∨ a = k) with h1 | rfl
  · exact h.full a h1 ha'
  · rcases h.row hk with h2 | h2
    · exact .inl h2
    · exact .inr fun b hb => h2 b hb hb
theorem fill_zero {n : Nat} {f : Nat → Nat → Int} {M : Int} (hR : ∀ a, a < n → rowS n f a ≤ M) (hC : ∀ a, a < n → colS n f a ≤ M) : FillInv n f M (fun _ _ => 0) 0 0 := by
  have z1 : ∀ a, rowS n (fun _ _ => 0) a = 0 := fun a => sumN_zero n
  have z2 : ∀ a, colS n (fun _ _ => 0) a = 0 := fun a => sumN_zero n
  refine ⟨fun _ _ _ _ => Int.le_refl _, fun _ _ _ _ _ => rfl, fun a ha => ?_, fun a ha => ?_, fun a ha => by omega, fun _ => .inr fun b hb => by omega⟩
  · unfold roomR; rw [z1]; have := hR a ha; omega
  · unfold roomC; rw [z2]; have := hC a ha; omega
theorem fill_inv {n : Nat} {f : Nat → Nat → Int} {M : Int} (hR : ∀ a, a < n → rowS n f a ≤ M) (hC : ∀ a, a < n → colS n f a ≤ M) : ∀ k, k ≤ n → FillInv n f M (fillK n f M k) k 0 := by
  intro k
  induction k with
  | zero => intro _; exact fill_zero hR hC
  | succ k ih => intro hk; exact fill_next (fill_row (ih (by omega)) (by omega) n (Nat.le_refl _)) (by omega)
/-- With what is filled up each row and each column has the sum of the fullest line. -/
theorem fill_ok (n : Nat) (f : Nat → Nat → Int) : (∀ k, k < n → rowS n f k + rowS n (fillF n f) k = mostF n f ∧ colS n f k + colS n (fillF n f) k = mostF n f) ∧ ∀ i j, i < n → j < n → 0 ≤ fillF n f i j := by
  have hR : ∀ a, a < n → rowS n f a ≤ mostF n f := fun a ha => (mostTo_ge n f ha).1
  have hC : ∀ a, a < n → colS n f a ≤ mostF n f := fun a ha => (mostTo_ge n f ha).2
  have h := fill_inv hR hC n (Nat.le_refl _)
  have e : fillK n f (mostF n f) n = fillF n f := rfl
  rw [e] at h
  have hs : sumN (roomR n f (mostF n f) (fillF n f)) n = sumN (roomC n f (mostF n f) (fillF n f)) n := by
    have a1 := all_col n f
    have a2 := all_col n (fillF n f)
    unfold allS at a1 a2
    unfold roomR roomC
    rw [sumN_sub, sumN_sub, sumN_sub (fun i => mostF n f - colS n f i), sumN_sub (fun _ => mostF n f), sumN_const]
    omega
  have z : (∀ a, a < n → roomR n f (mostF n f) (fillF n f) a = 0) ∧ ∀ b, b < n → roomC n f (mostF n f) (fillF n f) b = 0 := by
    by_cases hall : ∀ b, b < n → roomC n f (mostF n f) (fillF n f) b = 0
    · refine ⟨fun a ha => sumN_eq0 h.rr ?_ ha, hall⟩
      rw [hs, sumN_congr hall, sumN_zero]
    · have h1 : ∀ a, a < n → roomR n f (mostF n f) (fillF n f) a = 0 := fun a ha => by
        rcases h.full a ha ha with h1 | h1
        · exact h1
        · exact absurd h1 hall
      refine ⟨h1, fun b hb => sumN_eq0 h.rc ?_ hb⟩
      rw [← hs, sumN_congr h1, sumN_zero]
  refine ⟨fun k hk => ?_, fun i j hi hj => h.pos i j hi hj⟩
  have z1 := z.1 k hk
  have z2 := z.2 k hk
  unfold roomR at z1
  unfold roomC at z2
  omega
/-- Nothing is filled up exactly if the traffic is even. -/
theorem fill_none {n : Nat} {f : Nat → Nat → Int} (h0 : ∀ i j, i < n → j < n → 0 ≤ f i j) : allS n (fillF n f) = 0 ↔ EvenF n f := by
  obtain ⟨h1, h2⟩ := fill_ok n f
  have hrow : ∀ k, k < n → 0 ≤ rowS n (fillF n f) k := fun k hk => sumN_nonneg fun j hj => h2 k j hk hj
  constructor
  · intro h k hk
    have a := sumN_eq0 hrow h hk
    have b := sumN_eq0 (f := colS n (fillF n f)) (fun j hj => sumN_nonneg fun i hi => h2 i j hi hj) (by rw [← all_col]; exact h) hk
    have := h1 k hk
    omega
  · intro h
    unfold allS
    rw [sumN_congr (g := fun _ => 0) (fun k hk => by have := h1 k hk; have := h k hk; omega), sumN_zero]
/-- All units are at most as many as the fullest line times the inputs, and so many just if the traffic is even. -/
theorem all_le (n : Nat) (f : Nat → Nat → Int) : allS n f ≤ mostF n f * n := sumN_bd fun i hi => (mostTo_ge n f hi).1
theorem all_eq (n : Nat) (f : Nat → Nat → Int) : allS n f = mostF n f * n ↔ EvenF n f := by
  have hR : ∀ i, i < n → 0 ≤ mostF n f - rowS n f i := fun i hi => by have : rowS n f i ≤ mostF n f := (mostTo_ge n f hi).1; omega
  have hC : ∀ i, i < n → 0 ≤ mostF n f - colS n f i := fun i hi => by have : colS n f i ≤ mostF n f := (mostTo_ge n f hi).2; omega
  have eR : sumN (fun i => mostF n f - rowS n f i) n = mostF n f * n - allS n f := by rw [sumN_sub (fun _ => mostF n f), sumN_const]; rfl
  have eC : sumN (fun i => mostF n f - colS n f i) n = mostF n f * n - allS n f := by rw [sumN_sub (fun _ => mostF n f), sumN_const, all_col]
  constructor
  · intro h k hk
    have a := sumN_eq0 hR (by rw [eR]; omega) hk
    have b := sumN_eq0 hC (by rw [eC]; omega) hk
    omega
  · intro h
    have : sumN (fun i => mostF n f - rowS n f i) n = 0 := by
      rw [sumN_congr (g := fun _ => 0) (fun k hk => by have := h k hk; omega), sumN_zero]
    omega
end Go.Proofs.Ythfjlellaojdmaa
