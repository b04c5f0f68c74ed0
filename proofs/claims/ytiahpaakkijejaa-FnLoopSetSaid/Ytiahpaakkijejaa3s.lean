/- The plain mathematics of the step network: ways, clashes, runs and settings. No condition. -/
import Derived.Test.YtiahpaakkijejaaPlain
namespace Go.Proofs.Ytiahpaakkijejaa
set_option linter.unusedSimpArgs false
set_option linter.unusedVariables false
/-- A number of lines and of steps. -/
def NetOk (n st : Nat) : Prop := (n = 2 ∧ st = 1) ∨ (n = 4 ∧ st = 2) ∨ (n = 8 ∧ st = 3)
/-- The line behind s steps on the way from i to o. -/
def wayTo (n st i o : Nat) : Nat → Nat
  | 0 => i
  | s + 1 => (2 * wayTo n st i o s + o / 2 ^ (st - 1 - s) % 2) % n
def wayN (n st i o : Nat) : List Int := (List.range st).map fun s => (wayTo n st i o (s + 1) : Int)
theorem wayN_len (n st i o : Nat) : (wayN n st i o).length = st := by simp [wayN]
theorem wayN_at {n st i o s : Nat} (h : s < st) : (wayN n st i o)[s]? = some (wayTo n st i o (s + 1) : Int) := by simp [wayN, h]
theorem wayTo_lt {n st i o : Nat} (h : NetOk n st) (hi : i < n) (s : Nat) : wayTo n st i o s < n := by
  cases s with
  | zero => exact hi
  | succ s => exact Nat.mod_lt _ (by unfold NetOk at h; omega)
theorem wayTo_last {n st i o : Nat} (h : NetOk n st) (hi : i < n) (ho : o < n) : wayTo n st i o st = o := by
  rcases h with ⟨rfl, rfl⟩ | ⟨rfl, rfl⟩ | ⟨rfl, rfl⟩
  · simp [wayTo]; omega
  · simp [wayTo]; omega
  · simp [wayTo]; omega
/-- The shuffle ahead of the switches of a step. -/
def shuf (n l : Nat) : Nat := if l < n / 2 then 2 * l else 2 * l + 1 - n
theorem shuf_lt {n st l : Nat} (h : NetOk n st) (hl : l < n) : shuf n l < n := by
  unfold shuf; rcases h with ⟨rfl, rfl⟩ | ⟨rfl, rfl⟩ | ⟨rfl, rfl⟩ <;> split <;> omega
theorem shuf_half {n st l : Nat} (h : NetOk n st) (hl : l < n) : shuf n l / 2 = l % (n / 2) := by
  unfold shuf; rcases h with ⟨rfl, rfl⟩ | ⟨rfl, rfl⟩ | ⟨rfl, rfl⟩ <;> split <;> omega
theorem next_half {n st l b : Nat} (h : NetOk n st) (hl : l < n) (hb : b < 2) : (2 * l + b) % n / 2 = l % (n / 2) := by
  rcases h with ⟨rfl, rfl⟩ | ⟨rfl, rfl⟩ | ⟨rfl, rfl⟩ <;> omega
theorem shuf_inj {n st l k : Nat} (h : NetOk n st) (hl : l < n) (hk : k < n) (he : shuf n l = shuf n k) : l = k := by
  unfold shuf at he; rcases h with ⟨rfl, rfl⟩ | ⟨rfl, rfl⟩ | ⟨rfl, rfl⟩ <;> split at he <;> split at he <;> omega
theorem way_half {n st i o : Nat} (h : NetOk n st) (hi : i < n) (s : Nat) : wayTo n st i o (s + 1) / 2 = wayTo n st i o s % (n / 2) :=
  next_half h (wayTo_lt h hi s) (Nat.mod_lt _ (by omega))
theorem way_shuf {n st i o : Nat} (h : NetOk n st) (hi : i < n) (s : Nat) : wayTo n st i o (s + 1) / 2 = shuf n (wayTo n st i o s) / 2 := by
  rw [way_half h hi, shuf_half h (wayTo_lt h hi s)]
/-- The other line at the same switch. -/
def swp (l : Nat) : Nat := l / 2 * 2 + 1 - l % 2
theorem swp_half (l : Nat) : swp l / 2 = l / 2 := by unfold swp; omega
theorem swp_ne (l : Nat) : swp l ≠ l := by unfold swp; omega
theorem eq_or_swp {l k : Nat} (h : l / 2 = k / 2) : k = l ∨ k = swp l := by unfold swp; omega
theorem swp_lt {n st l : Nat} (h : NetOk n st) (hl : l < n) : swp l < n := by
  unfold swp; rcases h with ⟨rfl, rfl⟩ | ⟨rfl, rfl⟩ | ⟨rfl, rfl⟩ <;> omega
theorem swp_swp (l : Nat) : swp (swp l) = l := by unfold swp; omega
/-- The line behind s steps when the switches are set so. -/
def runTo (n : Nat) (set : List Bool) (i : Nat) : Nat → Nat
  | 0 => i
  | s + 1 => let l := shuf n (runTo n set i s); if set.getD (s * (n / 2) + l / 2) false then swp l else l
def runN (n st : Nat) (set : List Bool) : List Int := (List.range n).map fun i => (runTo n set i st : Int)
theorem runN_len (n st : Nat) (set : List Bool) : (runN n st set).length = n := by simp [runN]
theorem runN_at {n st i : Nat} {set : List Bool} (h : i < n) : (runN n st set)[i]? = some (runTo n set i st : Int) := by simp [runN, h]
theorem runTo_lt {n st i : Nat} {set : List Bool} (h : NetOk n st) (hi : i < n) (s : Nat) : runTo n set i s < n := by
  induction s with
  | zero => exact hi
  | succ s ih =>
    show (if _ then _ else _) < n
    split
    · exact swp_lt h (shuf_lt h ih)
    · exact shuf_lt h ih
theorem runTo_half {n st i : Nat} {set : List Bool} (h : NetOk n st) (hi : i < n) (s : Nat) : runTo n set i (s + 1) / 2 = shuf n (runTo n set i s) / 2 := by
  show (if _ then _ else _) / 2 = _
  split
  · exact swp_half _
  · rfl
theorem runTo_inj {n st i j : Nat} {set : List Bool} (h : NetOk n st) (hi : i < n) (hj : j < n) (s : Nat) (he : runTo n set i s = runTo n set j s) : i = j := by
  induction s with
  | zero => exact he
  | succ s ih =>
    apply ih
    have h1 := runTo_half (set := set) h hi s
    have h2 := runTo_half (set := set) h hj s
    have h3 : shuf n (runTo n set i s) / 2 = shuf n (runTo n set j s) / 2 := by rw [← h1, ← h2, he]
    apply shuf_inj h (runTo_lt h hi s) (runTo_lt h hj s)
    have e1 : runTo n set i (s + 1) = if set.getD (s * (n / 2) + shuf n (runTo n set i s) / 2) false then swp (shuf n (runTo n set i s)) else shuf n (runTo n set i s) := rfl
    have e2 : runTo n set j (s + 1) = if set.getD (s * (n / 2) + shuf n (runTo n set j s) / 2) false then swp (shuf n (runTo n set j s)) else shuf n (runTo n set j s) := rfl
    rw [← h3] at e2
    rw [e1, e2] at he
    split at he
    · rw [← swp_swp (shuf n (runTo n set i s)), he, swp_swp]
    · exact he
/-- What a run realises has the run as its ways. -/
theorem run_way {n st i : Nat} {set : List Bool} (h : NetOk n st) (hi : i < n) : ∀ s, s ≤ st → wayTo n st i (runTo n set i st) s = runTo n set i s := by
  have key : ∀ s, ∃ b, b < 2 ∧ runTo n set i (s + 1) = (2 * runTo n set i s + b) % n := by
    intro s
    have h1 := runTo_half (set := set) h hi s
    rw [shuf_half h (runTo_lt h hi s)] at h1
    have h2 := runTo_lt (set := set) h hi s
    have h3 := runTo_lt (set := set) h hi (s + 1)
    refine ⟨runTo n set i (s + 1) % 2, Nat.mod_lt _ (by omega), ?_⟩
    generalize runTo n set i (s + 1) = y at *
    generalize runTo n set i s = x at *
    rcases h with ⟨rfl, rfl⟩ | ⟨rfl, rfl⟩ | ⟨rfl, rfl⟩ <;> omega
  obtain ⟨b0, hb0, e0⟩ := key 0
  obtain ⟨b1, hb1, e1⟩ := key 1
  obtain ⟨b2, hb2, e2⟩ := key 2
  have hr : runTo n set i 0 = i := rfl
  intro s hs
  have h0 := runTo_lt (set := set) h hi 0
  have h1 := runTo_lt (set := set) h hi 1
  have h2 := runTo_lt (set := set) h hi 2
  have h3 := runTo_lt (set := set) h hi 3
  rcases h with ⟨rfl, rfl⟩ | ⟨rfl, rfl⟩ | ⟨rfl, rfl⟩
  · rcases (by omega : s = 0 ∨ s = 1) with rfl | rfl
    · rfl
    · simp only [wayTo] at *; omega
  · rcases (by omega : s = 0 ∨ s = 1 ∨ s = 2) with rfl | rfl | rfl
    · rfl
    · simp only [wayTo, hr] at *; simp at *; omega
    · simp only [wayTo, hr] at *; simp at *; omega
  · rcases (by omega : s = 0 ∨ s = 1 ∨ s = 2 ∨ s = 3) with rfl | rfl | rfl | rfl
    · rfl
    · simp only [wayTo, hr] at *; simp at *; omega
    · simp only [wayTo, hr] at *; simp at *; omega
    · simp only [wayTo, hr] at *; simp at *; omega
/-- An injective map of the numbers below n into themselves meets each. -/
theorem meets {n : Nat} {f : Nat → Nat} (hf : ∀ i, i < n → f i < n) (hi : ∀ i j, i < n → j < n → f i = f j → i = j) {y : Nat} (hy : y < n) : ∃ i, i < n ∧ f i = y := by
  by_cases hx : ∃ i, i < n ∧ f i = y
  · exact hx
  · exfalso
    have hn : (y :: (List.range n).map f).Nodup := by
      rw [List.nodup_cons]
      constructor
      · intro hm
        obtain ⟨i, h1, h2⟩ := List.mem_map.1 hm
        exact hx ⟨i, List.mem_range.1 h1, h2⟩
      · unfold List.Nodup
        rw [List.pairwise_map]
        refine List.Pairwise.imp_of_mem ?_ (List.nodup_range (n := n))
        intro a b ha hb hne he
        exact hne (hi a b (List.mem_range.1 ha) (List.mem_range.1 hb) he)
    have := nodup_len_nat (n := n) hn (fun x hx => by
      rcases List.mem_cons.1 hx with rfl | hx
      · exact hy
      · obtain ⟨i, h1, rfl⟩ := List.mem_map.1 hx
        exact hf i (List.mem_range.1 h1))
    simp at this
    omega
section
variable {n st : Nat} (p : Nat → Nat)
/-- The line of the input i behind s steps, when it goes to p i. -/
def way (n st : Nat) (p : Nat → Nat) (i s : Nat) : Nat := wayTo n st i (p i) s
/-- Whether the inputs i and j are on the same line behind some step. -/
def meetB (n st : Nat) (p : Nat → Nat) (i j : Nat) : Bool := (List.range st).any fun s => way n st p i (s + 1) == way n st p j (s + 1)
def clashJ (n st : Nat) (p : Nat → Nat) (j k : Nat) : Nat := ((List.range k).filter fun i => meetB n st p i j).length
def clashTo (n st : Nat) (p : Nat → Nat) (k : Nat) : Nat := ((List.range k).map fun j => clashJ n st p j j).sum
def clashN (n st : Nat) (p : Nat → Nat) : Nat := clashTo n st p n
theorem clashJ_succ (j k : Nat) : clashJ n st p j (k + 1) = clashJ n st p j k + if meetB n st p k j then 1 else 0 := by
  unfold clashJ; rw [List.range_succ, List.filter_append, List.length_append]
  by_cases h : meetB n st p k j <;> simp [h]
theorem clashJ_le (j k : Nat) : clashJ n st p j k ≤ k := by unfold clashJ; exact Nat.le_trans (List.length_filter_le _ _) (by simp)
theorem clashTo_succ (k : Nat) : clashTo n st p (k + 1) = clashTo n st p k + clashJ n st p k k := by unfold clashTo; rw [List.range_succ, List.map_append, List.sum_append]; simp
theorem clashTo_le (k : Nat) : 2 * clashTo n st p k ≤ k * (k - 1) := by
  induction k with
  | zero => simp [clashTo]
  | succ k ih =>
    rw [clashTo_succ]
    have := clashJ_le (n := n) (st := st) p k k
    have e : (k + 1) * (k + 1 - 1) = k * (k - 1) + 2 * k := by
      cases k with
      | zero => rfl
      | succ k => simp [Nat.add_mul, Nat.mul_add]; omega
    omega
/-- No inputs clash. -/
def NoClash (n st : Nat) (p : Nat → Nat) : Prop := ∀ i j s, i < n → j < n → s ≤ st → way n st p i s = way n st p j s → i = j
theorem clash_zero : clashN n st p = 0 ↔ NoClash n st p := by
  have h1 : clashN n st p = 0 ↔ ∀ j, j < n → ∀ i, i < j → meetB n st p i j = false := by
    unfold clashN clashTo
    constructor
    · intro h j hj i hi
      have h2 : clashJ n st p j j = 0 := by
        have := List.sum_eq_zero_iff_forall_eq_nat.1 h _ (List.mem_map.2 ⟨j, List.mem_range.2 hj, rfl⟩)
        exact this
      unfold clashJ at h2
      have h3 := List.eq_nil_of_length_eq_zero h2
      rw [List.filter_eq_nil_iff] at h3
      have := h3 i (List.mem_range.2 hi)
      simpa using this
    · intro h
      rw [List.sum_eq_zero_iff_forall_eq_nat]
      intro x hx
      obtain ⟨j, hj, rfl⟩ := List.mem_map.1 hx
      unfold clashJ
      rw [List.length_eq_zero_iff, List.filter_eq_nil_iff]
      intro i hi
      rw [h j (List.mem_range.1 hj) i (List.mem_range.1 hi)]
      simp
  rw [h1]
  have h2 : ∀ i j, meetB n st p i j = false ↔ ∀ s, s < st → way n st p i (s + 1) ≠ way n st p j (s + 1) := by
    intro i j
    unfold meetB
    rw [List.any_eq_false]
    constructor
    · intro h s hs he
      have := h s (List.mem_range.2 hs)
      simp [he] at this
    · intro h s hs
      simp [h s (List.mem_range.1 hs)]
  constructor
  · intro h i j s hi hj hs he
    cases s with
    | zero => exact he
    | succ s =>
      rcases Nat.lt_trichotomy i j with hlt | heq | hgt
      · exact absurd he ((h2 i j).1 (h j hj i hlt) s (by omega))
      · exact heq
      · exact absurd he.symm ((h2 j i).1 (h i hi j hgt) s (by omega))
  · intro h j hj i hi
    rw [h2]
    intro s hs he
    have := h i j (s + 1) (by omega) hj (by omega) he
    omega
/-- The place of the switch that the input i passes in the step s, and whether it crosses there. -/
def idxS (n st : Nat) (p : Nat → Nat) (i s : Nat) : Nat := s * (n / 2) + way n st p i (s + 1) / 2
def crossB (n st : Nat) (p : Nat → Nat) (i s : Nat) : Bool := shuf n (way n st p i s) != way n st p i (s + 1)
/-- How the switches are set. -/
def finB (n st : Nat) (p : Nat → Nat) (k : Nat) : Bool := (List.range n).any fun i => (way n st p i (k / (n / 2) + 1) / 2 == k % (n / 2)) && crossB n st p i (k / (n / 2))
def setN (n st : Nat) (p : Nat → Nat) : List Bool := (List.range (n / 2 * st)).map (finB n st p)
theorem setN_len : (setN n st p).length = n / 2 * st := by simp [setN]
theorem idxS_lt (h : NetOk n st) {i s : Nat} (hi : i < n) (hs : s < st) : idxS n st p i s < n / 2 * st := by
  have h1 : way n st p i (s + 1) < n := wayTo_lt h hi (s + 1)
  unfold idxS
  rcases h with ⟨rfl, rfl⟩ | ⟨rfl, rfl⟩ | ⟨rfl, rfl⟩ <;> omega
theorem idxS_parts (h : NetOk n st) {i s : Nat} (hi : i < n) : idxS n st p i s / (n / 2) = s ∧ idxS n st p i s % (n / 2) = way n st p i (s + 1) / 2 := by
  have h1 : way n st p i (s + 1) < n := wayTo_lt h hi (s + 1)
  unfold idxS
  rcases h with ⟨rfl, rfl⟩ | ⟨rfl, rfl⟩ | ⟨rfl, rfl⟩ <;> omega
/-- Who passes the same switch crosses it alike. -/
theorem fin_cross (h : NetOk n st) (hc : NoClash n st p) {i s : Nat} (hi : i < n) (hs : s < st) : finB n st p (idxS n st p i s) = crossB n st p i s := by
  obtain ⟨e1, e2⟩ := idxS_parts (st := st) p h (s := s) hi
  rw [Bool.eq_iff_iff]
  unfold finB
  rw [e1, e2, List.any_eq_true]
  constructor
  · rintro ⟨j, hj, hp⟩
    have hj' := List.mem_range.1 hj
    rw [Bool.and_eq_true, beq_iff_eq] at hp
    obtain ⟨hp1, hp2⟩ := hp
    by_cases hij : i = j
    · subst hij; exact hp2
    · have a1 : way n st p i s ≠ way n st p j s := fun e => hij (hc i j s hi hj' (by omega) e)
      have a2 : way n st p i (s + 1) ≠ way n st p j (s + 1) := fun e => hij (hc i j (s + 1) hi hj' (by omega) e)
      have b1 : way n st p i (s + 1) / 2 = shuf n (way n st p i s) / 2 := way_shuf h hi s
      have b2 : way n st p j (s + 1) / 2 = shuf n (way n st p j s) / 2 := way_shuf h hj' s
      have l1 : way n st p i s < n := wayTo_lt h hi s
      have l2 : way n st p j s < n := wayTo_lt h hj' s
      have a3 : shuf n (way n st p i s) ≠ shuf n (way n st p j s) := fun e => a1 (shuf_inj h l1 l2 e)
      unfold crossB at hp2 ⊢
      simp only [bne_iff_ne] at hp2 ⊢
      omega
  · intro hx
    exact ⟨i, List.mem_range.2 hi, by simp [hx]⟩
theorem way_meets (h : NetOk n st) (hc : NoClash n st p) {s y : Nat} (hs : s ≤ st) (hy : y < n) : ∃ i, i < n ∧ way n st p i s = y :=
  meets (fun i hi => wayTo_lt h hi s) (fun i j hi hj he => hc i j s hi hj hs he) hy
theorem idx_meets (h : NetOk n st) (hc : NoClash n st p) {k : Nat} (hk : k < n / 2 * st) : ∃ i s, i < n ∧ s < st ∧ idxS n st p i s = k := by
  have hs : k / (n / 2) < st := Nat.div_lt_of_lt_mul hk
  have hy : 2 * (k % (n / 2)) < n := by
    have := Nat.mod_lt k (show 0 < n / 2 by unfold NetOk at h; omega)
    omega
  obtain ⟨i, hi, he⟩ := way_meets p h hc (s := k / (n / 2) + 1) (by omega) hy
  refine ⟨i, k / (n / 2), hi, hs, ?_⟩
  unfold idxS
  rw [he, Nat.mul_div_cancel_left _ (by omega), Nat.mul_comm]
  exact Nat.div_add_mod k (n / 2)
theorem setN_at {k : Nat} (hk : k < n / 2 * st) : (setN n st p)[k]? = some (finB n st p k) := by simp [setN, hk]
/-- Set so, every input follows its way. -/
theorem set_run (h : NetOk n st) (hc : NoClash n st p) {i : Nat} (hi : i < n) : ∀ s, s ≤ st → runTo n (setN n st p) i s = way n st p i s := by
  intro s
  induction s with
  | zero => intro _; rfl
  | succ s ih =>
    intro hs
    have ih' := ih (by omega)
    show (if (setN n st p).getD (s * (n / 2) + shuf n (runTo n (setN n st p) i s) / 2) false then _ else _) = _
    rw [ih']
    have b1 : way n st p i (s + 1) / 2 = shuf n (way n st p i s) / 2 := way_shuf h hi s
    have e : s * (n / 2) + shuf n (way n st p i s) / 2 = idxS n st p i s := by unfold idxS; rw [b1]
    rw [e, List.getD_eq_getElem?_getD, setN_at p (idxS_lt p h hi (by omega)), Option.getD_some, fin_cross p h hc hi (by omega)]
    unfold crossB
    rcases eq_or_swp b1.symm with h1 | h1
    · rw [h1]; simp
    · rw [h1, if_pos]
      simp only [bne_iff_ne]
      exact fun e => swp_ne _ e.symm
theorem set_runN (h : NetOk n st) (hc : NoClash n st p) (hp : ∀ i, i < n → p i < n) : runN n st (setN n st p) = (List.range n).map fun i => (p i : Int) := by
  unfold runN
  apply List.map_congr_left
  intro i hi
  have hi' := List.mem_range.1 hi
  rw [set_run p h hc hi' st (Nat.le_refl _)]
  unfold way
  rw [wayTo_last h hi' (hp i hi')]
end
section
variable {n st : Nat} {set : List Bool}
theorem run_noClash (h : NetOk n st) : NoClash n st (fun i => runTo n set i st) := by
  intro i j s hi hj hs he
  unfold way at he
  rw [run_way h hi s hs, run_way h hj s hs] at he
  exact runTo_inj h hi hj s he
theorem run_set (h : NetOk n st) (hl : set.length = n / 2 * st) : setN n st (fun i => runTo n set i st) = set := by
  apply List.ext_getElem?
  intro k
  by_cases hk : k < n / 2 * st
  · have hc := run_noClash (set := set) h
    rw [setN_at _ hk]
    obtain ⟨i, s, hi, hs, rfl⟩ := idx_meets _ h hc hk
    rw [fin_cross _ h hc hi hs]
    have hk' : idxS n st (fun i => runTo n set i st) i s < set.length := by rw [hl]; exact hk
    rw [List.getElem?_eq_getElem hk']
    congr 1
    unfold crossB way
    rw [run_way h hi s (by omega), run_way h hi (s + 1) (by omega)]
    have e : idxS n st (fun i => runTo n set i st) i s = s * (n / 2) + shuf n (runTo n set i s) / 2 := by
      unfold idxS way
      rw [run_way h hi (s + 1) (by omega), runTo_half h hi s]
    have e2 : set[idxS n st (fun i => runTo n set i st) i s] = set.getD (s * (n / 2) + shuf n (runTo n set i s) / 2) false := by
      rw [← e, List.getD_eq_getElem?_getD, List.getElem?_eq_getElem hk', Option.getD_some]
    rw [e2]
    show (shuf n (runTo n set i s) != if set.getD (s * (n / 2) + shuf n (runTo n set i s) / 2) false then swp (shuf n (runTo n set i s)) else shuf n (runTo n set i s)) = _
    cases set.getD (s * (n / 2) + shuf n (runTo n set i s) / 2) false
    · simp
    · simp only [if_true, bne_iff_ne]
      exact fun e => swp_ne _ e.symm
  · rw [List.getElem?_eq_none (by rw [setN_len]; omega), List.getElem?_eq_none (by omega)]
end
end Go.Proofs.Ytiahpaakkijejaa
