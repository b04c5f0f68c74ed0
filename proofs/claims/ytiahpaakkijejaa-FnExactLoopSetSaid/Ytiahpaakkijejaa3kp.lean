/- How the loop network is set, as lists, and what is written on the way there. No condition. -/
import Derived.Test.Ytiahpaakkijejaa3c
import Derived.Test.YtiahpaakkijejaaScat
namespace Go.Proofs.Ytiahpaakkijejaa
set_option linter.unusedSimpArgs false
set_option linter.unusedVariables false
/-- A permutation as a list. -/
def permN (n : Nat) (q : Nat → Nat) : List Int := (List.range n).map fun i => (q i : Int)
theorem permN_len (n : Nat) (q : Nat → Nat) : (permN n q).length = n := by simp [permN]
theorem permN_at {n : Nat} {q : Nat → Nat} {i : Nat} (h : i < n) : (permN n q)[i]? = some (q i : Int) := by simp [permN, h]
/-- How the switches are set. -/
def loopL (d : Nat) (q : Nat → Nat) : List Bool := (List.range (manyD d)).map (setF d q)
theorem loopL_len (d : Nat) (q : Nat → Nat) : (loopL d q).length = manyD d := by simp [loopL]
theorem loopL_at {d : Nat} {q : Nat → Nat} {i : Nat} (h : i < manyD d) : (loopL d q)[i]? = some (setF d q i) := by simp [loopL, h]
def fstL (H : Nat) (low : Nat → Bool) : List Bool := (List.range H).map fun k => low (2 * k)
def lstL (H : Nat) (low : Nat → Bool) (q : Nat → Nat) : List Bool := (List.range H).map fun k => low (invP (H * 2) q (2 * k))
theorem fstL_len (H : Nat) (low : Nat → Bool) : (fstL H low).length = H := by simp [fstL]
theorem lstL_len (H : Nat) (low : Nat → Bool) (q : Nat → Nat) : (lstL H low q).length = H := by simp [lstL]
theorem loopL_succ (d : Nat) (q : Nat → Nat) : loopL (d + 1) q =
    ((fstL (2 ^ (d + 1)) (lowF (2 ^ (d + 1) * 2) q) ++ loopL d (upP (lowF (2 ^ (d + 1) * 2) q) q)) ++ loopL d (loP (lowF (2 ^ (d + 1) * 2) q) q)) ++ lstL (2 ^ (d + 1)) (lowF (2 ^ (d + 1) * 2) q) q := by
  have hm : manyD (d + 1) = 2 ^ (d + 1) + 2 ^ (d + 1) + 2 * manyD d := by show 2 ^ (d + 2) + _ = _; rw [Nat.pow_succ]; omega
  have e : ∀ x, setF (d + 1) q x = if x < 2 ^ (d + 1) then lowF (2 ^ (d + 1) * 2) q (2 * x)
    else if x < 2 ^ (d + 1) + manyD d then setF d (upP (lowF (2 ^ (d + 1) * 2) q) q) (x - 2 ^ (d + 1))
    else if x < 2 ^ (d + 1) + 2 * manyD d then setF d (loP (lowF (2 ^ (d + 1) * 2) q) q) (x - 2 ^ (d + 1) - manyD d)
    else lowF (2 ^ (d + 1) * 2) q (invP (2 ^ (d + 1) * 2) q (2 * (x - 2 ^ (d + 1) - 2 * manyD d))) := fun x => rfl
  apply List.ext_getElem?
  intro i
  by_cases hi : i < manyD (d + 1)
  · rw [loopL_at hi, e]
    rw [hm] at hi
    generalize hH : 2 ^ (d + 1) = H at *
    generalize hM : manyD d = M at *
    rw [List.getElem?_append, List.getElem?_append, List.getElem?_append]
    simp only [List.length_append, fstL_len, loopL_len, hM]
    by_cases h1 : i < H
    · rw [if_pos h1, if_pos (by omega), if_pos (by omega), if_pos (by omega)]; simp [fstL, h1]
    · rw [if_neg h1]
      by_cases h2 : i < H + M
      · rw [if_pos h2, if_pos (by omega), if_pos (by omega), if_neg (by omega), loopL_at (by omega)]
      · rw [if_neg h2]
        by_cases h3 : i < H + 2 * M
        · rw [if_pos h3, if_pos (by omega), if_neg (by omega), loopL_at (by omega)]; congr 2; omega
        · rw [if_neg h3, if_neg (by omega)]
          have h4 : i - (H + M + M) < H := by omega
          have e2 : i - H - 2 * M = i - (H + M + M) := by omega
          rw [e2]; simp [lstL, h4]
  · rw [List.getElem?_eq_none (by rw [loopL_len]; omega), List.getElem?_eq_none (by simp only [List.length_append, fstL_len, lstL_len, loopL_len]; omega)]
/-- Who is told, and who goes through the lower network, from the sides. -/
def toldL (side : List Int) : List Bool := side.map fun x => decide (0 ≤ x)
def lowS (side : List Int) : List Bool := side.map fun x => decide (x = 1)
theorem toldL_at {side : List Int} {a : Nat} {y : Bool} (h : (toldL side)[a]? = some y) : ∃ x, side[a]? = some x ∧ y = decide (0 ≤ x) := by
  unfold toldL at h; rw [List.getElem?_map] at h
  cases hs : side[a]? with
  | none => rw [hs] at h; cases h
  | some x => rw [hs] at h; injection h with h; exact ⟨x, rfl, h.symm⟩
theorem set_self {α : Type} {xs : List α} {a : Nat} {y : α} (h : xs[a]? = some y) : xs.set a y = xs := by
  apply List.ext_getElem?
  intro i
  rw [List.getElem?_set]
  split
  · rename_i e; subst e
    have := (List.getElem?_eq_some_iff.1 h).1
    rw [if_pos this, h]
  · rfl
theorem round_told (sig : List Nat) (side : List Int) (a : Nat) : ((toldL side).set a true).set (sig.getD a 0) true = toldL (roundL sig side a) := by
  unfold toldL roundL; rw [List.map_set, List.map_set]; rfl
theorem round_low (sig : List Nat) {side : List Int} {a : Nat} {x : Int} (hx : side[a]? = some x) (h : x < 0) : (lowS side).set (sig.getD a 0) true = lowS (roundL sig side a) := by
  have e : (lowS side).set a false = lowS side := set_self (by
    unfold lowS; rw [List.getElem?_map, hx]
    show some (decide (x = 1)) = _
    rw [decide_eq_false (by omega)])
  unfold roundL
  have e2 : lowS ((side.set a 0).set (sig.getD a 0) 1) = ((lowS side).set a false).set (sig.getD a 0) true := by
    unfold lowS; rw [List.map_set, List.map_set]; rfl
  rw [e2, e]
theorem toldL_start (n : Nat) : toldL (List.replicate n (-1)) = List.replicate n false := by
  unfold toldL; rw [List.map_replicate]; rfl
theorem lowS_start (n : Nat) : lowS (List.replicate n (-1)) = List.replicate n false := by
  unfold lowS; rw [List.map_replicate]; rfl
def lowN (n : Nat) (low : Nat → Bool) : List Bool := (List.range n).map low
theorem lowN_at {n : Nat} {low : Nat → Bool} {i : Nat} (h : i < n) : (lowN n low)[i]? = some (low i) := by simp [lowN, h]
theorem lowN_len (n : Nat) (low : Nat → Bool) : (lowN n low).length = n := by simp [lowN]
theorem lowS_end {n : Nat} {q : Nat → Nat} (hn : n = 4 ∨ n = 8) (h : IsP n q) : lowS (sideL (sigL n q) n) = lowN n (lowF n q) := by
  apply List.ext_getElem?
  intro i
  by_cases hi : i < n
  · rw [lowN_at hi]
    unfold lowS
    rw [List.getElem?_map, side_at hn h hi]
    cases lowF n q i <;> rfl
  · rw [List.getElem?_eq_none (by unfold lowS sideL; rw [List.length_map, outerL_len]; omega), List.getElem?_eq_none (by rw [lowN_len]; omega)]
/-- The other input at the same switch of the last column. -/
theorem sig_lt {n a : Nat} {q : Nat → Nat} (he : n % 2 = 0) (h : IsP n q) (ha : a < n) : invP n q (swp (q a)) < n := (invP_ok h (swp_lt2 he (h.1 a ha))).1
theorem side_len {sig : List Nat} {n : Nat} {res side : List Int} {a f : Nat} (h : InL sig n res side a f) : side.length = n := h.len
/-- The writes. -/
def stBack (q : Nat → Nat) (j : Nat) : Option (Nat × Int) := some (q j, (j : Int))
theorem back_all {n : Nat} {q : Nat → Nat} (h : IsP n q) : scat (List.replicate n 0) (stBack q) n = permN n (invP n q) := by
  refine scat_all (F := fun y => ((invP n q y : Nat) : Int)) (by simp) (fun j hj i x hx => ?_) (fun i hi => ?_)
  · unfold stBack at hx
    injection hx with hx; injection hx with h1 h2
    subst h1; rw [invP_self h hj, h2]
  · obtain ⟨h1, h2⟩ := invP_ok h hi
    exact ⟨invP n q i, h1, _, by unfold stBack; rw [h2]⟩
def stUp (low : Nat → Bool) (q : Nat → Nat) (j : Nat) : Option (Nat × Int) := if low j = true then none else some (j / 2, ((q j / 2 : Nat) : Int))
def stLo (low : Nat → Bool) (q : Nat → Nat) (j : Nat) : Option (Nat × Int) := if low j = true then some (j / 2, ((q j / 2 : Nat) : Int)) else none
def stFst (low : Nat → Bool) (j : Nat) : Option (Nat × Bool) := if j % 2 = 0 then some (j / 2, low j) else none
def stLst (low : Nat → Bool) (q : Nat → Nat) (j : Nat) : Option (Nat × Bool) := if q j % 2 = 0 then some (q j / 2, low j) else none
def stBeg (low : Nat → Bool) (j : Nat) : Option (Nat × Bool) := some (j / 2, low (2 * (j / 2)))
def stEnd (n : Nat) (low : Nat → Bool) (q : Nat → Nat) (j : Nat) : Option (Nat × Bool) := some (q j / 2, low (invP n q (2 * (q j / 2))))
section
variable {H : Nat} {low : Nat → Bool} {q : Nat → Nat}
theorem up_all (h : IsP (H * 2) q) (hl : Proper (H * 2) q low) : scat (List.replicate H 0) (stUp low q) (H * 2) = permN H (upP low q) := by
  refine scat_all (F := fun k => ((upP low q k : Nat) : Int)) (by simp) (fun j hj i x hx => ?_) (fun i hi => ?_)
  · unfold stUp at hx
    have h1 := hl.1 (j / 2) (by omega)
    split at hx
    · cases hx
    · rename_i hlow
      injection hx with hx; injection hx with e1 e2
      subst e1 e2
      show _ = ((upP low q (j / 2) : Nat) : Int)
      unfold upP
      rcases (by omega : j = 2 * (j / 2) ∨ j = 2 * (j / 2) + 1) with e | e
      · rw [← e, if_neg hlow]
      · rw [← e] at h1 ⊢
        have : low (2 * (j / 2)) = true := by cases hz : low (2 * (j / 2)) <;> simp [hz] at h1 ⊢ <;> simp [h1] at hlow
        rw [if_pos this]
  · have h1 := hl.1 i (by omega)
    cases hz : low (2 * i)
    · exact ⟨2 * i, by omega, _, by unfold stUp; rw [hz, if_neg (by simp)]; congr 2; omega⟩
    · rw [hz] at h1
      exact ⟨2 * i + 1, by omega, _, by unfold stUp; rw [h1, if_neg (by simp)]; congr 2; omega⟩
theorem lo_all (h : IsP (H * 2) q) (hl : Proper (H * 2) q low) : scat (List.replicate H 0) (stLo low q) (H * 2) = permN H (loP low q) := by
  refine scat_all (F := fun k => ((loP low q k : Nat) : Int)) (by simp) (fun j hj i x hx => ?_) (fun i hi => ?_)
  · unfold stLo at hx
    have h1 := hl.1 (j / 2) (by omega)
    split at hx
    · rename_i hlow
      injection hx with hx; injection hx with e1 e2
      subst e1 e2
      show _ = ((loP low q (j / 2) : Nat) : Int)
      unfold loP
      rcases (by omega : j = 2 * (j / 2) ∨ j = 2 * (j / 2) + 1) with e | e
      · rw [← e, if_pos hlow]
      · rw [← e] at h1 ⊢
        have : ¬ low (2 * (j / 2)) = true := by cases hz : low (2 * (j / 2)) <;> simp [hz] at h1 ⊢ <;> simp [h1] at hlow
        rw [if_neg this]
    · cases hx
  · have h1 := hl.1 i (by omega)
    cases hz : low (2 * i)
    · rw [hz] at h1
      exact ⟨2 * i + 1, by omega, _, by unfold stLo; rw [h1, if_pos (by simp)]; congr 2; omega⟩
    · exact ⟨2 * i, by omega, _, by unfold stLo; rw [hz, if_pos rfl]; congr 2; omega⟩
theorem fst_all : scat (List.replicate H false) (stFst low) (H * 2) = fstL H low := by
  refine scat_all (F := fun k => low (2 * k)) (by simp) (fun j hj i x hx => ?_) (fun i hi => ?_)
  · unfold stFst at hx
    split at hx
    · injection hx with hx; injection hx with e1 e2
      rw [← e1, ← e2]; congr 1; omega
    · cases hx
  · exact ⟨2 * i, by omega, _, by unfold stFst; rw [if_pos (by omega)]; congr 2; omega⟩
theorem lst_all (h : IsP (H * 2) q) : scat (List.replicate H false) (stLst low q) (H * 2) = lstL H low q := by
  refine scat_all (F := fun k => low (invP (H * 2) q (2 * k))) (by simp) (fun j hj i x hx => ?_) (fun i hi => ?_)
  · unfold stLst at hx
    split at hx
    · injection hx with hx; injection hx with e1 e2
      rw [← e1, ← e2]
      show low j = low (invP (H * 2) q (2 * (q j / 2)))
      rw [show 2 * (q j / 2) = q j by omega, invP_self h hj]
    · cases hx
  · obtain ⟨h1, h2⟩ := invP_ok h (y := 2 * i) (by omega)
    exact ⟨invP (H * 2) q (2 * i), h1, _, by unfold stLst; rw [h2, if_pos (by omega)]; congr 2; omega⟩
theorem beg_all : scat (List.replicate H false) (stBeg low) (H * 2) = fstL H low := by
  refine scat_all (F := fun k => low (2 * k)) (by simp) (fun j hj i x hx => ?_) (fun i hi => ?_)
  · unfold stBeg at hx
    injection hx with hx; injection hx with e1 e2
    rw [← e1, ← e2]
  · exact ⟨2 * i, by omega, _, by unfold stBeg; rw [show 2 * i / 2 = i by omega]⟩
theorem end_all (h : IsP (H * 2) q) : scat (List.replicate H false) (stEnd (H * 2) low q) (H * 2) = lstL H low q := by
  refine scat_all (F := fun k => low (invP (H * 2) q (2 * k))) (by simp) (fun j hj i x hx => ?_) (fun i hi => ?_)
  · unfold stEnd at hx
    injection hx with hx; injection hx with e1 e2
    rw [← e1, ← e2]
  · obtain ⟨h1, h2⟩ := invP_ok h (y := 2 * i) (by omega)
    exact ⟨invP (H * 2) q (2 * i), h1, _, by unfold stEnd; rw [h2, show 2 * i / 2 = i by omega]⟩
/-- What stands at a place already is what will be written there, or false. -/
theorem beg_old {k i : Nat} {y : Bool} (hi : i < H) (hy : (scat (List.replicate H false) (stBeg low) k)[i]? = some y) : (y || low (2 * i)) = low (2 * i) := by
  obtain ⟨h1, h2⟩ := scat_at (d := List.replicate H false) (st := stBeg low) (F := fun k => low (2 * k)) k (fun j hj i x hx => by
    unfold stBeg at hx; injection hx with hx; injection hx with e1 e2; rw [← e1, ← e2]) i (by simpa using hi)
  by_cases hx : ∃ j, j < k ∧ ∃ x, stBeg low j = some (i, x)
  · rw [h1 hx] at hy; injection hy with hy; subst hy; simp
  · rw [h2 hx, List.getElem?_replicate, if_pos hi] at hy; injection hy with hy; subst hy; simp
theorem end_old {k i n : Nat} {y : Bool} (hi : i < H) (hy : (scat (List.replicate H false) (stEnd n low q) k)[i]? = some y) : (y || low (invP n q (2 * i))) = low (invP n q (2 * i)) := by
  obtain ⟨h1, h2⟩ := scat_at (d := List.replicate H false) (st := stEnd n low q) (F := fun k => low (invP n q (2 * k))) k (fun j hj i x hx => by
    unfold stEnd at hx; injection hx with hx; injection hx with e1 e2; rw [← e1, ← e2]) i (by simpa using hi)
  by_cases hx : ∃ j, j < k ∧ ∃ x, stEnd n low q j = some (i, x)
  · rw [h1 hx] at hy; injection hy with hy; subst hy; simp
  · rw [h2 hx, List.getElem?_replicate, if_pos hi] at hy; injection hy with hy; subst hy; simp
def parB (x : Nat) : Bool := decide (x % 2 = 1)
theorem beg_new (hl : Proper (H * 2) q low) {k : Nat} (hk : k < H * 2) : low (2 * (k / 2)) = (low k != parB k) := by
  have h1 := hl.1 (k / 2) (by omega)
  unfold parB
  rcases (by omega : k = 2 * (k / 2) ∨ k = 2 * (k / 2) + 1) with e | e
  · rw [← e, decide_eq_false (by omega)]; simp
  · rw [← e] at h1
    rw [h1, decide_eq_true (by omega)]; cases low (2 * (k / 2)) <;> rfl
theorem end_new (h : IsP (H * 2) q) (hl : Proper (H * 2) q low) {k : Nat} (hk : k < H * 2) : low (invP (H * 2) q (2 * (q k / 2))) = (low k != parB (q k)) := by
  have hq := h.1 k hk
  unfold parB
  by_cases e : q k % 2 = 1
  · rw [decide_eq_true e]
    obtain ⟨h1, h2⟩ := invP_ok h (y := 2 * (q k / 2)) (by omega)
    generalize invP (H * 2) q (2 * (q k / 2)) = j at *
    have hne : j ≠ k := by rintro rfl; omega
    rw [hl.2 j k h1 hk hne (by rw [h2]; omega)]
    cases low j <;> rfl
  · rw [decide_eq_false e, show 2 * (q k / 2) = q k by omega, invP_self h hk]; simp
end
end Go.Proofs.Ytiahpaakkijejaa
