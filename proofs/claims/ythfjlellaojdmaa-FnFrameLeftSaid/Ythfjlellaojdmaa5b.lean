/- The shortest frame: each slot is the least permutation by which what is left and what is filled up can be sent; behind LineMost slots nothing is left. No condition. -/
import Derived.Test.Ythfjlellaojdmaa5p
namespace Go.Proofs.Ythfjlellaojdmaa
set_option linter.unusedSimpArgs false
set_option linter.unusedVariables false
def posP (B : Nat → Nat → Int) (i j : Nat) : Bool := decide (0 < B i j)
theorem least_nat {Q : Nat → Prop} : ∀ m, (∃ r, r < m ∧ Q r) → ∃ r, r < m ∧ Q r ∧ ∀ r', r' < r → ¬ Q r' := by
  intro m
  induction m with
  | zero => rintro ⟨r, h, _⟩; omega
  | succ m ih =>
    rintro ⟨r, h, hq⟩
    by_cases h1 : ∃ r, r < m ∧ Q r
    · obtain ⟨r1, a, b, c⟩ := ih h1
      exact ⟨r1, by omega, b, c⟩
    · obtain rfl : r = m := by
        by_cases e : r < m
        · exact absurd ⟨r, e, hq⟩ h1
        · omega
      exact ⟨r, by omega, hq, fun r' h2 h3 => h1 ⟨r', h2, h3⟩⟩
theorem greedy_ex {n : Nat} {P : Nat → Nat → Bool} (h : ExtP n P []) : ∃ p, GreedyP n P p := by
  by_cases hx : ∃ r, r < factN n ∧ CoverP P (permL n (upto n) r)
  · obtain ⟨r, h1, h2, h3⟩ := least_nat _ hx
    exact ⟨_, first_greedy h1 h2 h3⟩
  · exact absurd h (no_first fun r' h1 h2 => hx ⟨r', h1, h2⟩)
open Classical in
noncomputable def bestP (n : Nat) (B : Nat → Nat → Int) : List Int := if h : ∃ p, GreedyP n (posP B) p then Classical.choose h else []
theorem bestP_is {n : Nat} {B : Nat → Nat → Int} {p : List Int} (h : GreedyP n (posP B) p) : bestP n B = p := by
  unfold bestP
  rw [dif_pos ⟨p, h⟩]
  exact greedy_uniq (Classical.choose_spec (⟨p, h⟩ : ∃ p, GreedyP n (posP B) p)) h
theorem pm_slot {n : Nat} {p : List Int} (h : IsPm n p) : SlotOk n p := by
  refine ⟨h.1, fun k x hx => ?_⟩
  have hb := h.2.2 x (List.mem_of_getElem? hx)
  refine ⟨by omega, hb.2, fun _ hm => ?_⟩
  obtain ⟨j, hj, he⟩ := mem_take_at hm
  have hnd := h.2.1
  unfold List.Nodup at hnd
  exact pairwise_at hnd he hx hj rfl
theorem pm_row {n i : Nat} {p : List Int} (h : IsPm n p) (hi : i < n) : sumN (fun j => hit i j p) n = 1 := by
  rw [hit_row (pm_slot h) hi, if_pos]
  rw [List.getD_eq_getElem?_getD, List.getElem?_eq_getElem (by rw [h.1]; exact hi), Option.getD_some]
  exact (h.2.2 _ (List.getElem_mem _)).1
theorem pm_col {n j : Nat} {p : List Int} (h : IsPm n p) (hj : j < n) : sumN (fun i => hit i j p) n = 1 := by
  have h1 : sumN (fun j => 1 - sumN (fun i => hit i j p) n) n = 0 := by
    rw [sumN_sub (fun _ => 1), ← sumN_swap, sumN_congr (g := fun _ => 1) (f := fun i => sumN (fun j => hit i j p) n) (fun i hi => pm_row h hi)]
    omega
  have := sumN_eq0 (f := fun j => 1 - sumN (fun i => hit i j p) n) (fun j _ => by have := hit_col (j := j) (pm_slot h); omega) h1 hj
  omega
/-- The slot: an input sends if it has a unit of the traffic left. -/
def bSlot (n : Nat) (L : Nat → Nat → Int) (p : List Int) : List Int := (List.range n).map fun k => if 0 < L k (p.getD k 0).toNat then p.getD k 0 else -1
theorem bSlot_len (n : Nat) (L : Nat → Nat → Int) (p : List Int) : (bSlot n L p).length = n := by simp [bSlot]
theorem bSlot_at {n k : Nat} {L : Nat → Nat → Int} {p : List Int} (h : k < n) : (bSlot n L p)[k]? = some (if 0 < L k (p.getD k 0).toNat then p.getD k 0 else -1) := by simp [bSlot, h]
theorem bSlot_yes {n k v : Nat} {L : Nat → Nat → Int} {p : List Int} (h : k < n) (hv : p[k]? = some (v : Int)) (hL : 0 < L k v) : (bSlot n L p)[k]? = some (v : Int) := by
  rw [bSlot_at h, List.getD_eq_getElem?_getD, hv, Option.getD_some, if_pos (by simpa using hL)]
theorem bSlot_no {n k v : Nat} {L : Nat → Nat → Int} {p : List Int} (h : k < n) (hv : p[k]? = some (v : Int)) (hL : ¬ 0 < L k v) : (bSlot n L p)[k]? = some (-1) := by
  rw [bSlot_at h, List.getD_eq_getElem?_getD, hv, Option.getD_some, if_neg (by simpa using hL)]
theorem pm_nat {n k : Nat} {p : List Int} (h : IsPm n p) (hk : k < n) : ∃ v : Nat, v < n ∧ p[k]? = some (v : Int) := by
  have hl : k < p.length := by rw [h.1]; exact hk
  have hx : p[k]? = some p[k] := List.getElem?_eq_getElem hl
  have hb := h.2.2 _ (List.mem_of_getElem? hx)
  exact ⟨p[k].toNat, by omega, by rw [hx]; congr 1; omega⟩
theorem bSlot_ok {n : Nat} {L : Nat → Nat → Int} {p : List Int} (h : IsPm n p) : SlotOk n (bSlot n L p) := by
  refine ⟨bSlot_len _ _ _, fun k x hx => ?_⟩
  have hk : k < n := by have := (List.getElem?_eq_some_iff.1 hx).1; rwa [bSlot_len] at this
  obtain ⟨v, hv, hp⟩ := pm_nat h hk
  by_cases hL : 0 < L k v
  · rw [bSlot_yes hk hp hL] at hx
    injection hx with hx
    subst hx
    refine ⟨by omega, by omega, fun _ hm => ?_⟩
    obtain ⟨j, hj, he⟩ := mem_take_at hm
    obtain ⟨u, hu, hpu⟩ := pm_nat h (k := j) (by omega)
    have hnd := h.2.1
    unfold List.Nodup at hnd
    by_cases hLj : 0 < L j u
    · rw [bSlot_yes (by omega) hpu hLj] at he
      injection he with he
      exact pairwise_at hnd hpu hp hj he
    · rw [bSlot_no (by omega) hpu hLj] at he; injection he with he; omega
  · rw [bSlot_no hk hp hL] at hx
    injection hx with hx
    subst hx
    exact ⟨by omega, by omega, fun h => by omega⟩
theorem bSlot_hit {n i j : Nat} {L : Nat → Nat → Int} {p : List Int} (h : IsPm n p) (hi : i < n) : hit i j (bSlot n L p) = if 0 < L i j then hit i j p else 0 := by
  obtain ⟨v, hv, hp⟩ := pm_nat h hi
  unfold hit
  rw [hp]
  by_cases hL : 0 < L i v
  · rw [bSlot_yes hi hp hL]
    by_cases e : v = j
    · subst e; simp [hL]
    · rw [if_neg (by intro h; injection h with h; omega)]; simp
  · rw [bSlot_no hi hp hL]
    by_cases e : v = j
    · subst e; simp [hL]
    · have e1 : ¬ (some (-1 : Int) = some (j : Int)) := by intro h; injection h with h; omega
      have e2 : ¬ (some (v : Int) = some (j : Int)) := by intro h; injection h with h; omega
      rw [if_neg e1, if_neg e2]; simp
/-- What is left, and what is left of the filling, behind s slots. -/
noncomputable def bSt (n : Nat) (f : Nat → Nat → Int) : Nat → (Nat → Nat → Int) × (Nat → Nat → Int)
  | 0 => (f, fillF n f)
  | s + 1 => (fun i j => (bSt n f s).1 i j - hit i j (bSlot n (bSt n f s).1 (bestP n fun a b => (bSt n f s).1 a b + (bSt n f s).2 a b)),
      fun i j => (bSt n f s).2 i j - (hit i j (bestP n fun a b => (bSt n f s).1 a b + (bSt n f s).2 a b) - hit i j (bSlot n (bSt n f s).1 (bestP n fun a b => (bSt n f s).1 a b + (bSt n f s).2 a b))))
noncomputable def bBoth (n : Nat) (f : Nat → Nat → Int) (s : Nat) : Nat → Nat → Int := fun a b => (bSt n f s).1 a b + (bSt n f s).2 a b
noncomputable def bPm (n : Nat) (f : Nat → Nat → Int) (s : Nat) : List Int := bestP n (bBoth n f s)
noncomputable def bSl (n : Nat) (f : Nat → Nat → Int) (s : Nat) : List Int := bSlot n (bSt n f s).1 (bPm n f s)
noncomputable def bFr (n : Nat) (f : Nat → Nat → Int) (s : Nat) : List (List Int) := (List.range s).map (bSl n f)
theorem bFr_len (n : Nat) (f : Nat → Nat → Int) (s : Nat) : (bFr n f s).length = s := by simp [bFr]
theorem bFr_succ (n : Nat) (f : Nat → Nat → Int) (s : Nat) : bFr n f (s + 1) = bFr n f s ++ [bSl n f s] := by simp [bFr, List.range_succ]
theorem bL_succ (n : Nat) (f : Nat → Nat → Int) (s i j : Nat) : (bSt n f (s + 1)).1 i j = (bSt n f s).1 i j - hit i j (bSl n f s) := rfl
theorem bX_succ (n : Nat) (f : Nat → Nat → Int) (s i j : Nat) : (bSt n f (s + 1)).2 i j = (bSt n f s).2 i j - (hit i j (bPm n f s) - hit i j (bSl n f s)) := rfl
structure BInv (n : Nat) (f : Nat → Nat → Int) (s : Nat) : Prop where
  l0 : ∀ i j, i < n → j < n → 0 ≤ (bSt n f s).1 i j
  x0 : ∀ i j, i < n → j < n → 0 ≤ (bSt n f s).2 i j
  row : ∀ k, k < n → rowS n (bBoth n f s) k = mostF n f - s
  col : ∀ k, k < n → colS n (bBoth n f s) k = mostF n f - s
theorem bInv_zero {n : Nat} {f : Nat → Nat → Int} (h0 : ∀ i j, i < n → j < n → 0 ≤ f i j) : BInv n f 0 := by
  obtain ⟨h1, h2⟩ := fill_ok n f
  refine ⟨h0, h2, fun k hk => ?_, fun k hk => ?_⟩
  · have : rowS n (bBoth n f 0) k = rowS n f k + rowS n (fillF n f) k := by unfold rowS; rw [← sumN_add]; rfl
    rw [this, (h1 k hk).1]; simp
  · have : colS n (bBoth n f 0) k = colS n f k + colS n (fillF n f) k := by unfold colS; rw [← sumN_add]; rfl
    rw [this, (h1 k hk).2]; simp
theorem bInv_best {n : Nat} {f : Nat → Nat → Int} {s : Nat} (h : BInv n f s) (hs : (s : Int) < mostF n f) : GreedyP n (posP (bBoth n f s)) (bPm n f s) := by
  have hb : ∀ i j, i < n → j < n → 0 ≤ bBoth n f s i j := fun i j hi hj => by unfold bBoth; have := h.l0 i j hi hj; have := h.x0 i j hi hj; omega
  have hm := even_mat (n := n) (f := bBoth n f s) (s := mostF n f - s) hb (by omega) h.row h.col
  have he : ExtP n (posP (bBoth n f s)) [] := (mat_ext (n := n) (P := posP (bBoth n f s)) (p := []) (T := List.replicate n false) (by simp) List.nodup_nil (fun x hx => by cases hx) (cover_nil _) (taken_nil n)).1 hm
  obtain ⟨p, hp⟩ := greedy_ex he
  have : bPm n f s = p := bestP_is hp
  rw [this]; exact hp
theorem bInv_succ {n : Nat} {f : Nat → Nat → Int} {s : Nat} (h : BInv n f s) (hs : (s : Int) < mostF n f) : BInv n f (s + 1) := by
  have hg := bInv_best h hs
  have eB : ∀ i j, bBoth n f (s + 1) i j = bBoth n f s i j - hit i j (bPm n f s) := fun i j => by
    unfold bBoth; rw [bL_succ, bX_succ]; omega
  have hh : ∀ i j, i < n → hit i j (bSl n f s) = if 0 < (bSt n f s).1 i j then hit i j (bPm n f s) else 0 := fun i j hi => bSlot_hit hg.1 hi
  have hbd := fun i j => hit_bd i j (bPm n f s)
  refine ⟨fun i j hi hj => ?_, fun i j hi hj => ?_, fun k hk => ?_, fun k hk => ?_⟩
  · have h1 := h.l0 i j hi hj
    have h2 := hbd i j
    rw [bL_succ, hh i j hi]; split <;> omega
  · have h1 := h.l0 i j hi hj
    have h3 := h.x0 i j hi hj
    have h2 := hbd i j
    rw [bX_succ, hh i j hi]
    split
    · omega
    · by_cases e : hit i j (bPm n f s) = 1
      · have hp : (bPm n f s)[i]? = some (j : Int) := by
          unfold hit at e; split at e
          · assumption
          · omega
        have h4 := hg.2.1 i _ hp
        unfold posP bBoth at h4
        simp at h4; omega
      · omega
  · have : rowS n (bBoth n f (s + 1)) k = rowS n (bBoth n f s) k - sumN (fun j => hit k j (bPm n f s)) n := by
      unfold rowS; rw [← sumN_sub]; exact sumN_congr fun j _ => eB k j
    rw [this, h.row k hk, pm_row hg.1 hk]; omega
  · have : colS n (bBoth n f (s + 1)) k = colS n (bBoth n f s) k - sumN (fun j => hit j k (bPm n f s)) n := by
      unfold colS; rw [← sumN_sub]; exact sumN_congr fun j _ => eB j k
    rw [this, h.col k hk, pm_col hg.1 hk]; omega
theorem bInv_all {n : Nat} {f : Nat → Nat → Int} (h0 : ∀ i j, i < n → j < n → 0 ≤ f i j) : ∀ s : Nat, (s : Int) ≤ mostF n f → BInv n f s := by
  intro s
  induction s with
  | zero => intro _; exact bInv_zero h0
  | succ s ih => intro hs; exact bInv_succ (ih (by omega)) (by omega)
theorem bL_left (n : Nat) (f : Nat → Nat → Int) (s i j : Nat) : (bSt n f s).1 i j = leftF f (bFr n f s) i j := by
  induction s with
  | zero => simp [bSt, leftF, bFr, cnt]
  | succ s ih => rw [bL_succ, ih, bFr_succ]; unfold leftF; rw [cnt_snoc]; omega
/-- The shortest frame is right, leaves nothing, and has so many slots. -/
theorem best_ok {n : Nat} {f : Nat → Nat → Int} (h0 : ∀ i j, i < n → j < n → 0 ≤ f i j) {S : Nat} (hS : (S : Int) = mostF n f) (hS36 : S ≤ 36) : FrameOkL n f (bFr n f S) ∧ ∀ i j, i < n → j < n → leftF f (bFr n f S) i j = 0 := by
  have hI := bInv_all h0 S (by omega)
  have hz : ∀ i j, i < n → j < n → leftF f (bFr n f S) i j = 0 := fun i j hi hj => by
    have hr := hI.row i hi
    rw [hS, show mostF n f - mostF n f = 0 by omega] at hr
    have h1 := sumN_eq0 (f := bBoth n f S i) (fun j hj => by unfold bBoth; have := hI.l0 i j hi hj; have := hI.x0 i j hi hj; omega) hr hj
    unfold bBoth at h1
    have h2 := hI.l0 i j hi hj
    have h3 := hI.x0 i j hi hj
    rw [← bL_left]; omega
  refine ⟨⟨by rw [bFr_len]; exact hS36, fun r hr => ?_, fun i j hi hj => ?_⟩, hz⟩
  · unfold bFr at hr
    obtain ⟨t, ht, rfl⟩ := List.mem_map.1 hr
    have ht' := List.mem_range.1 ht
    exact bSlot_ok (bInv_best (bInv_all h0 t (by omega)) (by omega)).1
  · have := hz i j hi hj
    unfold leftF at this; omega
/-- Within a slot: what is left when k inputs are done. -/
def partL (L : Nat → Nat → Int) (r : List Int) (k i j : Nat) : Int := L i j - hitTo k i j r
def partX (X : Nat → Nat → Int) (p r : List Int) (k i j : Nat) : Int := X i j - (hitTo k i j p - hitTo k i j r)
theorem hitTo_next {r : List Int} {k i j : Nat} : hitTo (k + 1) i j r = hitTo k i j r + if i = k then hit i j r else 0 := by
  unfold hitTo
  by_cases h1 : i < k
  · rw [if_pos (by omega), if_pos h1, if_neg (by omega)]; omega
  · by_cases h2 : i = k
    · rw [if_pos (by omega), if_neg h1, if_pos h2]; omega
    · rw [if_neg (by omega), if_neg h1, if_neg h2]; omega
theorem hit_is {r : List Int} {k j : Nat} (h : r[k]? = some (j : Int)) (b : Nat) : hit k b r = if b = j then 1 else 0 := by
  unfold hit; rw [h]
  by_cases e : b = j
  · subst e; simp
  · rw [if_neg (by intro hh; injection hh with hh; omega), if_neg e]
theorem hit_neg {r : List Int} {k : Nat} (h : r[k]? = some (-1)) (b : Nat) : hit k b r = 0 := by
  unfold hit; rw [h, if_neg (by intro hh; injection hh with hh; omega)]
theorem hitTo_self (r : List Int) (k j : Nat) : hitTo k k j r = 0 := by unfold hitTo; rw [if_neg (by omega)]
theorem partL_sent {L : Nat → Nat → Int} {r : List Int} {k j : Nat} (h : r[k]? = some (j : Int)) : partL L r (k + 1) = upd (partL L r k) k j (L k j - 1) := by
  funext a b
  unfold upd partL
  rw [hitTo_next]
  by_cases e : a = k
  · subst e
    rw [if_pos rfl, hit_is h, hitTo_self]
    by_cases e2 : b = j
    · subst e2; simp
    · rw [if_neg e2, if_neg (fun h => e2 h.2)]; omega
  · rw [if_neg e, if_neg (fun h => e h.1)]; omega
theorem partL_not {L : Nat → Nat → Int} {r : List Int} {k : Nat} (h : r[k]? = some (-1)) : partL L r (k + 1) = partL L r k := by
  funext a b
  unfold partL
  rw [hitTo_next]
  by_cases e : a = k
  · subst e; rw [if_pos rfl, hit_neg h]; omega
  · rw [if_neg e]; omega
theorem partX_same {X : Nat → Nat → Int} {p r : List Int} {k j : Nat} (hp : p[k]? = some (j : Int)) (h : r[k]? = some (j : Int)) : partX X p r (k + 1) = partX X p r k := by
  funext a b
  unfold partX
  rw [hitTo_next, hitTo_next]
  by_cases e : a = k
  · subst e; rw [if_pos rfl, if_pos rfl, hit_is hp, hit_is h]; omega
  · rw [if_neg e, if_neg e]; omega
theorem partX_used {X : Nat → Nat → Int} {p r : List Int} {k j : Nat} (hp : p[k]? = some (j : Int)) (h : r[k]? = some (-1)) : partX X p r (k + 1) = upd (partX X p r k) k j (X k j - 1) := by
  funext a b
  unfold upd partX
  rw [hitTo_next, hitTo_next]
  by_cases e : a = k
  · subst e
    rw [if_pos rfl, if_pos rfl, hit_is hp, hit_neg h, hitTo_self, hitTo_self]
    by_cases e2 : b = j
    · subst e2; simp
    · rw [if_neg e2, if_neg (fun h => e2 h.2)]; omega
  · rw [if_neg e, if_neg e, if_neg (fun h => e h.1)]; omega
theorem part_here (L : Nat → Nat → Int) (r : List Int) (k j : Nat) : partL L r k k j = L k j := by unfold partL; rw [hitTo_self]; omega
theorem partX_here (X : Nat → Nat → Int) (p r : List Int) (k j : Nat) : partX X p r k k j = X k j := by unfold partX; rw [hitTo_self, hitTo_self]; omega
theorem hitTo_all {n i j : Nat} (r : List Int) (hi : i < n) : hitTo n i j r = hit i j r := by unfold hitTo; rw [if_pos hi]
theorem hitTo_zero (i j : Nat) (r : List Int) : hitTo 0 i j r = 0 := by unfold hitTo; rw [if_neg (by omega)]
end Go.Proofs.Ythfjlellaojdmaa
