/- The looping of the loop network: who goes through the upper and who through the lower network; set so, the network realises the permutation. No condition. -/
import Derived.Test.Ytiahpaakkijejaa3l
namespace Go.Proofs.Ytiahpaakkijejaa
set_option linter.unusedSimpArgs false
set_option linter.unusedVariables false
/-- One round: the input a goes through the upper network, the one at the same switch of the last column through the lower one. -/
def roundL (sig : List Nat) (side : List Int) (a : Nat) : List Int := (side.set a 0).set (sig.getD a 0) 1
def innerL (sig : List Nat) : Nat → List Int → Nat → List Int
  | 0, side, _ => side
  | f + 1, side, a => if side.getD a 0 < 0 then innerL sig f (roundL sig side a) (swp (sig.getD a 0)) else side
def outerL (sig : List Nat) (n : Nat) : Nat → List Int
  | 0 => List.replicate n (-1)
  | k + 1 => innerL sig n (outerL sig n k) k
def sideL (sig : List Nat) (n : Nat) : List Int := outerL sig n n
theorem roundL_len (sig : List Nat) (side : List Int) (a : Nat) : (roundL sig side a).length = side.length := by simp [roundL]
theorem innerL_len (sig : List Nat) : ∀ f side a, (innerL sig f side a).length = side.length := by
  intro f
  induction f with
  | zero => intro side a; rfl
  | succ f ih =>
    intro side a
    unfold innerL
    split
    · rw [ih, roundL_len]
    · rfl
theorem outerL_len (sig : List Nat) (n k : Nat) : (outerL sig n k).length = n := by
  induction k with
  | zero => simp [outerL]
  | succ k ih => show (innerL _ _ _ _).length = n; rw [innerL_len, ih]
/-- How many are not told yet. -/
def negs (side : List Int) : Nat := (side.filter fun x => decide (x < 0)).length
theorem negs_le (side : List Int) : negs side ≤ side.length := List.length_filter_le _ _
theorem negs_set (side : List Int) (a : Nat) {x y : Int} (hx : side[a]? = some x) (hy : 0 ≤ y) : negs (side.set a y) + (if x < 0 then 1 else 0) = negs side := by
  induction side generalizing a with
  | nil => simp at hx
  | cons z r ih =>
    cases a with
    | zero =>
      simp at hx; subst hx
      have h : ¬ y < 0 := by omega
      by_cases hz : z < 0 <;> simp [negs, hz, h]
    | succ a =>
      have := ih a (by simpa using hx)
      unfold negs at this ⊢
      rw [List.set_cons_succ, List.filter_cons, List.filter_cons]
      by_cases hz : z < 0 <;> simp [hz] <;> omega
theorem negs_set_le (side : List Int) (a : Nat) {y : Int} (hy : 0 ≤ y) : negs (side.set a y) ≤ negs side := by
  cases hx : side[a]? with
  | none =>
    have := List.getElem?_eq_none_iff.1 hx
    rw [List.set_eq_of_length_le this]; exact Nat.le_refl _
  | some x => have := negs_set side a hx hy; omega
theorem negs_round (sig : List Nat) {side : List Int} {a : Nat} {x : Int} (hx : side[a]? = some x) (h : x < 0) : negs (roundL sig side a) + 1 ≤ negs side := by
  unfold roundL
  have h1 := negs_set side a hx (y := 0) (by omega)
  rw [if_pos h] at h1
  have h2 := negs_set_le (side.set a 0) (sig.getD a 0) (y := 1) (by omega)
  omega
theorem inner_go (sig : List Nat) {side : List Int} {a f : Nat} {x : Int} (hx : side[a]? = some x) (h : x < 0) : innerL sig (f + 1) side a = innerL sig f (roundL sig side a) (swp (sig.getD a 0)) := by
  show (if side.getD a 0 < 0 then _ else _) = _
  rw [List.getD_eq_getElem?_getD, hx, Option.getD_some, if_pos h]
theorem inner_stop (sig : List Nat) {side : List Int} {a f : Nat} {x : Int} (hx : side[a]? = some x) (h : ¬ x < 0) : innerL sig f side a = side := by
  cases f with
  | zero => rfl
  | succ f =>
    show (if side.getD a 0 < 0 then _ else _) = _
    rw [List.getD_eq_getElem?_getD, hx, Option.getD_some, if_neg h]
/-- What holds at the head of a round of the inner loop. -/
structure InL (sig : List Nat) (n : Nat) (res : List Int) (side : List Int) (a f : Nat) : Prop where
  eq : res = innerL sig f side a
  le : negs side ≤ f
  len : side.length = n
theorem InL.start (sig : List Nat) (n k : Nat) : InL sig n (outerL sig n (k + 1)) (outerL sig n k) k n :=
  ⟨rfl, by have := negs_le (outerL sig n k); rw [outerL_len] at this; exact this, outerL_len sig n k⟩
theorem InL.go {sig : List Nat} {n : Nat} {res side : List Int} {a f : Nat} {x : Int} (h : InL sig n res side a f) (hx : side[a]? = some x) (hl : x < 0) :
    ∃ g, f = g + 1 ∧ InL sig n res (roundL sig side a) (swp (sig.getD a 0)) g := by
  have h1 := negs_round sig hx hl
  have h2 := h.le
  refine ⟨f - 1, by omega, ?_, by omega, by rw [roundL_len, h.len]⟩
  rw [h.eq]
  conv => lhs; rw [show f = (f - 1) + 1 by omega]
  exact inner_go sig hx hl
theorem InL.stop {sig : List Nat} {n : Nat} {res side : List Int} {a f : Nat} {x : Int} (h : InL sig n res side a f) (hx : side[a]? = some x) (hl : ¬ x < 0) : res = side := by
  rw [h.eq]; exact inner_stop sig hx hl
/-- Whether the sides are told, and differ at the two lines of each switch. -/
def goodB (n : Nat) (sig : List Nat) : Bool :=
  (List.range n).all fun i => ((sideL sig n).getD i 5 == 0 || (sideL sig n).getD i 5 == 1) && ((sideL sig n).getD (sig.getD i 0) 5 != (sideL sig n).getD i 5) && ((sideL sig n).getD (swp i) 5 != (sideL sig n).getD i 5)
/-- A further number of a list of pairs. -/
def okPre (pre : List Nat) (x : Nat) : Bool :=
  (x != pre.length) && ((List.range pre.length).all fun j => (pre.getD j 0 != x) && ((pre.getD j 0 != pre.length) || x == j)) && (!decide (x < pre.length) || pre.getD x 0 == pre.length)
def chk (n : Nat) : Nat → List Nat → Bool
  | 0, pre => goodB n pre
  | r + 1, pre => (List.range n).all fun x => !okPre pre x || chk n r (pre ++ [x])
/-- Pairs of numbers below n. -/
def Pairs (n : Nat) (sig : List Nat) : Prop := sig.length = n ∧ ∀ (i x : Nat), sig[i]? = some x → x < n ∧ x ≠ i ∧ sig[x]? = some i
theorem chk_sound (n : Nat) : ∀ r pre, chk n r pre = true → ∀ rest, rest.length = r → Pairs n (pre ++ rest) → goodB n (pre ++ rest) = true := by
  intro r
  induction r with
  | zero =>
    intro pre h rest hr hp
    obtain rfl := List.eq_nil_of_length_eq_zero hr
    simpa [chk] using h
  | succ r ih =>
    intro pre h rest hr hp
    cases rest with
    | nil => simp at hr
    | cons x rest =>
      have hat : (pre ++ x :: rest)[pre.length]? = some x := by simp
      have hp1 := hp.2 _ _ hat
      unfold chk at h
      rw [List.all_eq_true] at h
      have h1 := h x (List.mem_range.2 hp1.1)
      have hpre : ∀ j, j < pre.length → (pre ++ x :: rest)[j]? = some (pre.getD j 0) := by
        intro j hj
        rw [List.getElem?_append_left hj, List.getD_eq_getElem?_getD, List.getElem?_eq_getElem hj, Option.getD_some]
      have hok : okPre pre x = true := by
        unfold okPre
        simp only [Bool.and_eq_true, List.all_eq_true, bne_iff_ne, Bool.or_eq_true, beq_iff_eq, Bool.not_eq_true', decide_eq_false_iff_not]
        refine ⟨⟨hp1.2.1, fun j hj => ?_⟩, ?_⟩
        · have hj' := List.mem_range.1 hj
          have h2 := hp.2 _ _ (hpre j hj')
          constructor
          · intro e
            rw [e] at h2
            rw [hp1.2.2] at h2
            have := h2.2.2
            injection this with this
            omega
          · by_cases e : pre.getD j 0 = pre.length
            · right
              rw [e, hat] at h2
              have := h2.2.2
              injection this
            · left; exact e
        · by_cases e : x < pre.length
          · right
            have h2 := hpre x e
            rw [hp1.2.2] at h2
            injection h2 with h2
            exact h2.symm
          · left; exact e
      rw [hok] at h1
      simp only [Bool.not_true, Bool.false_or] at h1
      have := ih (pre ++ [x]) h1 rest (by simpa using hr) (by simpa using hp)
      simpa using this
theorem chk4 : chk 4 4 [] = true := by decide +kernel
theorem chk8 : chk 8 8 [] = true := by decide +kernel
/-- The input that goes to y. -/
def invP (n : Nat) (p : Nat → Nat) (y : Nat) : Nat := ((List.range n).find? fun j => p j == y).getD 0
theorem invP_ok {n : Nat} {p : Nat → Nat} (h : IsP n p) {y : Nat} (hy : y < n) : invP n p y < n ∧ p (invP n p y) = y := by
  unfold invP
  cases hf : (List.range n).find? fun j => p j == y with
  | none =>
    rw [List.find?_eq_none] at hf
    obtain ⟨i, hi, he⟩ := meets h.1 h.2 hy
    exact absurd (by simpa using he) (hf i (List.mem_range.2 hi))
  | some j =>
    have h1 := List.find?_some hf
    have h2 := List.mem_range.1 (List.mem_of_find?_eq_some hf)
    simp only [Option.getD_some]
    exact ⟨h2, by simpa using h1⟩
theorem invP_self {n : Nat} {p : Nat → Nat} (h : IsP n p) {i : Nat} (hi : i < n) : invP n p (p i) = i := by
  obtain ⟨h1, h2⟩ := invP_ok h (h.1 i hi)
  exact h.2 _ _ h1 hi h2
def sigL (n : Nat) (p : Nat → Nat) : List Nat := (List.range n).map fun i => invP n p (swp (p i))
theorem sigL_at {n : Nat} {p : Nat → Nat} {i : Nat} (h : i < n) : (sigL n p)[i]? = some (invP n p (swp (p i))) := by simp [sigL, h]
theorem sigL_getD {n : Nat} {p : Nat → Nat} {i : Nat} (h : i < n) : (sigL n p).getD i 0 = invP n p (swp (p i)) := by rw [List.getD_eq_getElem?_getD, sigL_at h, Option.getD_some]
theorem swp_lt2 {n l : Nat} (he : n % 2 = 0) (h : l < n) : swp l < n := by unfold swp; omega
theorem sigL_pairs {n : Nat} {p : Nat → Nat} (he : n % 2 = 0) (h : IsP n p) : Pairs n (sigL n p) := by
  refine ⟨by simp [sigL], fun i x hx => ?_⟩
  have hi : i < n := by have := (List.getElem?_eq_some_iff.1 hx).1; simpa [sigL] using this
  rw [sigL_at hi] at hx
  injection hx with hx
  obtain ⟨h1, h2⟩ := invP_ok h (swp_lt2 he (h.1 i hi))
  rw [hx] at h1 h2
  refine ⟨h1, ?_, ?_⟩
  · rintro rfl; exact swp_ne _ h2.symm
  · rw [sigL_at h1, h2, swp_swp, invP_self h hi]
theorem good_of {n : Nat} {p : Nat → Nat} (hn : n = 4 ∨ n = 8) (h : IsP n p) : goodB n (sigL n p) = true := by
  rcases hn with rfl | rfl
  · exact chk_sound 4 4 [] chk4 (sigL 4 p) (by simp [sigL]) (sigL_pairs (by omega) h)
  · exact chk_sound 8 8 [] chk8 (sigL 8 p) (by simp [sigL]) (sigL_pairs (by omega) h)
/-- Who goes through the lower network. -/
def lowF (n : Nat) (p : Nat → Nat) (i : Nat) : Bool := (sideL (sigL n p) n).getD i 5 == 1
theorem side_at {n : Nat} {p : Nat → Nat} (hn : n = 4 ∨ n = 8) (h : IsP n p) {i : Nat} (hi : i < n) : (sideL (sigL n p) n)[i]? = some (if lowF n p i then 1 else 0) := by
  have hg := good_of hn h
  unfold goodB at hg
  rw [List.all_eq_true] at hg
  have h1 := hg i (List.mem_range.2 hi)
  simp only [Bool.and_eq_true, Bool.or_eq_true, beq_iff_eq] at h1
  have hl : i < (sideL (sigL n p) n).length := by unfold sideL; rw [outerL_len]; exact hi
  unfold lowF
  rw [List.getD_eq_getElem?_getD] at h1 ⊢
  rw [List.getElem?_eq_getElem hl] at h1 ⊢
  rw [Option.getD_some] at h1 ⊢
  rcases h1.1.1 with e | e <;> rw [e] <;> rfl
theorem low_proper {n : Nat} {p : Nat → Nat} (hn : n = 4 ∨ n = 8) (h : IsP n p) : Proper n p (lowF n p) := by
  have hg := good_of hn h
  unfold goodB at hg
  rw [List.all_eq_true] at hg
  have key : ∀ i j, i < n → j < n → (sideL (sigL n p) n).getD j 5 ≠ (sideL (sigL n p) n).getD i 5 → lowF n p j = !lowF n p i := by
    intro i j hi hj hne
    have a := side_at hn h hi
    have b := side_at hn h hj
    rw [List.getD_eq_getElem?_getD, List.getD_eq_getElem?_getD, a, b] at hne
    cases hA : lowF n p i <;> cases hB : lowF n p j <;> simp [hA, hB] at hne ⊢
  constructor
  · intro k hk
    have h1 := hg (2 * k) (List.mem_range.2 (by omega))
    simp only [Bool.and_eq_true, bne_iff_ne] at h1
    have e : swp (2 * k) = 2 * k + 1 := by unfold swp; omega
    rw [e] at h1
    exact key _ _ (by omega) hk h1.2
  · intro i j hi hj hne he
    have h1 := hg i (List.mem_range.2 hi)
    simp only [Bool.and_eq_true, bne_iff_ne] at h1
    have hn2 : n % 2 = 0 := by omega
    have e : (sigL n p).getD i 0 = j := by
      rw [sigL_getD hi]
      rcases eq_or_swp he with e | e
      · exact absurd (h.2 _ _ hi hj e.symm) hne
      · rw [← e]; exact invP_self h hj
    rw [e] at h1
    exact key _ _ hi hj h1.1.2
/-- How the switches are set. -/
def setF : Nat → (Nat → Nat) → Nat → Bool
  | 0, p, _ => p 0 == 1
  | d + 1, p, x =>
    if x < 2 ^ (d + 1) then lowF (2 ^ (d + 1) * 2) p (2 * x)
    else if x < 2 ^ (d + 1) + manyD d then setF d (upP (lowF (2 ^ (d + 1) * 2) p) p) (x - 2 ^ (d + 1))
    else if x < 2 ^ (d + 1) + 2 * manyD d then setF d (loP (lowF (2 ^ (d + 1) * 2) p) p) (x - 2 ^ (d + 1) - manyD d)
    else lowF (2 ^ (d + 1) * 2) p (invP (2 ^ (d + 1) * 2) p (2 * (x - 2 ^ (d + 1) - 2 * manyD d)))
theorem setF_run (d : Nat) (hd : d ≤ 2) : ∀ p, IsP (2 ^ (d + 1)) p → ∀ i, i < 2 ^ (d + 1) → runF d (setF d p) i = p i := by
  induction d with
  | zero =>
    intro p h i hi
    have h0 := h.1 0 (by simp)
    have h1 := h.1 1 (by simp)
    have h2 := h.2 0 1 (by simp) (by simp)
    simp at h0 h1 hi h2
    have hi' : i = 0 ∨ i = 1 := by omega
    unfold runF setF
    by_cases e : p 0 = 1
    · rcases hi' with rfl | rfl <;> simp [e] <;> omega
    · have e0 : p 0 = 0 := by omega
      rcases hi' with rfl | rfl <;> simp [e0] <;> omega
  | succ d ih =>
    intro p h i hi
    have hp2 : 2 ^ (d + 1 + 1) = 2 ^ (d + 1) * 2 := Nat.pow_succ 2 (d + 1)
    rw [hp2] at h hi
    have hn : 2 ^ (d + 1) * 2 = 4 ∨ 2 ^ (d + 1) * 2 = 8 := by
      rcases (by omega : d = 0 ∨ d = 1) with rfl | rfl <;> simp
    have hl := low_proper hn h
    have hu := up_isP h hl
    have hlo := lo_isP h hl
    refine set_loop h hl ⟨fun k hk => ?_, fun k hk => ?_, fun k hk => ?_, fun j hj hev => ?_⟩ i hi
    · show (if k < 2 ^ (d + 1) then _ else _) = _
      rw [if_pos hk]
    · rw [← ih (by omega) _ hu k hk]
      refine runF_congr d _ _ k hk (fun x hx => ?_)
      show (if 2 ^ (d + 1) + x < 2 ^ (d + 1) then _ else if 2 ^ (d + 1) + x < 2 ^ (d + 1) + manyD d then _ else _) = _
      rw [if_neg (by omega), if_pos (by omega)]
      congr 1; omega
    · rw [← ih (by omega) _ hlo k hk]
      refine runF_congr d _ _ k hk (fun x hx => ?_)
      show (if 2 ^ (d + 1) + manyD d + x < 2 ^ (d + 1) then _ else if 2 ^ (d + 1) + manyD d + x < 2 ^ (d + 1) + manyD d then _ else if 2 ^ (d + 1) + manyD d + x < 2 ^ (d + 1) + 2 * manyD d then _ else _) = _
      rw [if_neg (by omega), if_neg (by omega), if_pos (by omega)]
      congr 1; omega
    · show (if 2 ^ (d + 1) + 2 * manyD d + p j / 2 < 2 ^ (d + 1) then _ else if 2 ^ (d + 1) + 2 * manyD d + p j / 2 < 2 ^ (d + 1) + manyD d then _ else if 2 ^ (d + 1) + 2 * manyD d + p j / 2 < 2 ^ (d + 1) + 2 * manyD d then _ else _) = _
      rw [if_neg (by omega), if_neg (by omega), if_neg (by omega)]
      have e : 2 * (2 ^ (d + 1) + 2 * manyD d + p j / 2 - 2 ^ (d + 1) - 2 * manyD d) = p j := by omega
      rw [e, invP_self h hj]
end Go.Proofs.Ytiahpaakkijejaa
