/- The least permutation: the ranks count permutations in ascending order, the greedy one is the least; the shortest frame. No condition. -/
import Derived.Test.Ythfjlellaojdmaa5k
import Derived.Test.Ythfjlellaojdmaa5f
namespace Go.Proofs.Ythfjlellaojdmaa
set_option linter.unusedSimpArgs false
set_option linter.unusedVariables false
def factN : Nat → Nat
  | 0 => 1
  | k + 1 => (k + 1) * factN k
theorem factN_pos (k : Nat) : 0 < factN k := by
  induction k with
  | zero => simp [factN]
  | succ k ih => exact Nat.mul_pos (by omega) ih
/-- The permutation with a rank of k numbers that are left. -/
def permL : Nat → List Int → Nat → List Int
  | 0, _, _ => []
  | k + 1, left, r => left.getD (r / factN k) 0 :: permL k (left.eraseIdx (r / factN k)) (r % factN k)
theorem permL_succ (k : Nat) (left : List Int) (r : Nat) : permL (k + 1) left r = left.getD (r / factN k) 0 :: permL k (left.eraseIdx (r / factN k)) (r % factN k) := rfl
theorem quo_lt {k r : Nat} (h : r < factN (k + 1)) : r / factN k < k + 1 := Nat.div_lt_of_lt_mul (by rw [Nat.mul_comm]; exact h)
theorem permL_len (k : Nat) : ∀ left r, (permL k left r).length = k := by
  induction k with
  | zero => intro left r; rfl
  | succ k ih => intro left r; rw [permL_succ, List.length_cons, ih]
theorem getD_at {left : List Int} {q : Nat} (h : q < left.length) : left[q]? = some (left.getD q 0) := by
  rw [List.getD_eq_getElem?_getD, List.getElem?_eq_getElem h]; rfl
theorem permL_sub (k : Nat) : ∀ left r, left.length = k → r < factN k → left.Nodup → (permL k left r).Nodup ∧ ∀ x ∈ permL k left r, x ∈ left := by
  induction k with
  | zero => intro left r _ _ _; exact ⟨List.nodup_nil, fun x hx => by cases hx⟩
  | succ k ih =>
    intro left r hl hr hn
    have hq := quo_lt hr
    rw [permL_succ]
    generalize hqq : r / factN k = q at *
    have hat := getD_at (left := left) (q := q) (by omega)
    obtain ⟨h1, h2⟩ := ih (left.eraseIdx q) (r % factN k) (by rw [List.length_eraseIdx, if_pos (by omega), hl]; rfl) (Nat.mod_lt _ (factN_pos k)) (hn.sublist (List.eraseIdx_sublist _ _))
    constructor
    · rw [List.nodup_cons]
      refine ⟨fun hm => ?_, h1⟩
      have h3 := h2 _ hm
      obtain ⟨j, hj⟩ := List.getElem?_of_mem h3
      rw [List.getElem?_eraseIdx] at hj
      have hne : ∀ i, i ≠ q → left[i]? = some (left.getD q 0) → False := fun i hi he => by
        unfold List.Nodup at hn
        rcases Nat.lt_or_ge i q with hlt | hge
        · exact pairwise_at hn he hat hlt rfl
        · exact pairwise_at hn hat he (by omega) rfl
      split at hj
      · exact hne j (by omega) hj
      · exact hne (j + 1) (by omega) hj
    · intro x hx
      rcases List.mem_cons.1 hx with rfl | hx
      · exact List.mem_of_getElem? hat
      · exact List.mem_of_mem_eraseIdx (h2 x hx)
theorem permL_onto (k : Nat) : ∀ left p : List Int, left.length = k → p.length = k → p.Nodup → (∀ x ∈ p, x ∈ left) → left.Nodup → ∃ r, r < factN k ∧ permL k left r = p := by
  induction k with
  | zero =>
    intro left p _ hp _ _ _
    exact ⟨0, by simp [factN], by rw [List.eq_nil_of_length_eq_zero hp]; rfl⟩
  | succ k ih =>
    intro left p hl hp hn hs hln
    cases p with
    | nil => simp at hp
    | cons x rest =>
      rw [List.nodup_cons] at hn
      obtain ⟨q, hq⟩ := List.getElem?_of_mem (hs x (by simp))
      have hql : q < left.length := (List.getElem?_eq_some_iff.1 hq).1
      have hsub : ∀ y ∈ rest, y ∈ left.eraseIdx q := fun y hy => by
        obtain ⟨j, hj⟩ := List.getElem?_of_mem (hs y (by simp [hy]))
        have hne : j ≠ q := by rintro rfl; rw [hq] at hj; injection hj with hj; subst hj; exact hn.1 hy
        rcases Nat.lt_or_ge j q with hlt | hge
        · exact List.mem_of_getElem? (i := j) (by rw [List.getElem?_eraseIdx, if_pos hlt]; exact hj)
        · exact List.mem_of_getElem? (i := j - 1) (by rw [List.getElem?_eraseIdx, if_neg (by omega), show j - 1 + 1 = j by omega]; exact hj)
      obtain ⟨r0, h1, h2⟩ := ih (left.eraseIdx q) rest (by rw [List.length_eraseIdx, if_pos hql, hl]; rfl) (by simpa using hp) hn.2 hsub (hln.sublist (List.eraseIdx_sublist _ _))
      have hf := factN_pos k
      have e1 : (q * factN k + r0) / factN k = q := by rw [Nat.mul_comm, Nat.mul_add_div hf, Nat.div_eq_of_lt h1]; rfl
      have e2 : (q * factN k + r0) % factN k = r0 := by rw [Nat.mul_comm, Nat.mul_add_mod, Nat.mod_eq_of_lt h1]
      refine ⟨q * factN k + r0, ?_, ?_⟩
      · show _ < (k + 1) * factN k
        have := Nat.mul_le_mul_right (factN k) (show q + 1 ≤ k + 1 by omega)
        rw [Nat.add_mul] at this; omega
      · rw [permL_succ, e1, e2, h2, List.getD_eq_getElem?_getD, hq]; rfl
theorem permL_lex (k : Nat) : ∀ (left : List Int) (r r' i : Nat) (x x' : Int), left.length = k → left.Pairwise (· < ·) → r < factN k → r' < factN k → (permL k left r').take i = (permL k left r).take i →
    (permL k left r)[i]? = some x → (permL k left r')[i]? = some x' → x' < x → r' < r := by
  induction k with
  | zero => intro left r r' i x x' _ _ _ _ _ hx; simp [permL] at hx
  | succ k ih =>
    intro left r r' i x x' hl hs hr hr' ht hx hx' hlt
    have hq := quo_lt hr
    have hq' := quo_lt hr'
    have hf := factN_pos k
    have d1 := Nat.div_add_mod r (factN k)
    have d2 := Nat.div_add_mod r' (factN k)
    rw [permL_succ] at hx hx' ht
    rw [permL_succ] at ht
    have hat := getD_at (left := left) (q := r / factN k) (by omega)
    have hat' := getD_at (left := left) (q := r' / factN k) (by omega)
    cases i with
    | zero =>
      simp at hx hx'
      have hqq : r' / factN k < r / factN k := by
        rcases Nat.lt_trichotomy (r' / factN k) (r / factN k) with h | h | h
        · exact h
        · rw [h] at hx'; omega
        · have := pairwise_at hs hat hat' h
          simp at hx hx' this; omega
      rcases Nat.lt_or_ge r' r with h | h
      · exact h
      · have := Nat.div_le_div_right (c := factN k) h; omega
    | succ i =>
      rw [List.take_succ_cons, List.take_succ_cons] at ht
      injection ht with hh ht
      have hqq : r' / factN k = r / factN k := by
        rcases Nat.lt_trichotomy (r' / factN k) (r / factN k) with h | h | h
        · have := pairwise_at hs hat' hat h; omega
        · exact h
        · have := pairwise_at hs hat hat' h; omega
      rw [hqq] at ht hx'
      have := ih (left.eraseIdx (r / factN k)) (r % factN k) (r' % factN k) i x x' (by rw [List.length_eraseIdx, if_pos (by omega), hl]; rfl) (hs.sublist (List.eraseIdx_sublist _ _)) (Nat.mod_lt _ hf) (Nat.mod_lt _ hf) ht (by simpa using hx) (by simpa using hx') hlt
      rw [hqq] at d2
      omega
/-- Permutations of the numbers below n that use only what a table has. -/
def IsPm (n : Nat) (p : List Int) : Prop := p.length = n ∧ p.Nodup ∧ ∀ x ∈ p, 0 ≤ x ∧ x < n
def CoverP (P : Nat → Nat → Bool) (p : List Int) : Prop := ∀ (i : Nat) x, p[i]? = some x → P i x.toNat = true
def ExtP (n : Nat) (P : Nat → Nat → Bool) (pre : List Int) : Prop := ∃ rest, IsPm n (pre ++ rest) ∧ CoverP P (pre ++ rest)
def GreedyTo (n : Nat) (P : Nat → Nat → Bool) (p : List Int) : Prop := ∀ (i : Nat) x o, p[i]? = some x → 0 ≤ o → o < x → ¬ ExtP n P (p.take i ++ [o])
def GreedyP (n : Nat) (P : Nat → Nat → Bool) (p : List Int) : Prop := IsPm n p ∧ CoverP P p ∧ GreedyTo n P p
theorem ext_of {n : Nat} {P : Nat → Nat → Bool} {p : List Int} (h : IsPm n p) (hc : CoverP P p) {i : Nat} {x : Int} (hx : p[i]? = some x) : ExtP n P (p.take i ++ [x]) := by
  refine ⟨p.drop (i + 1), ?_⟩
  have e : p.take i ++ [x] ++ p.drop (i + 1) = p := by rw [← take_snoc' hx, List.take_append_drop]
  rw [e]; exact ⟨h, hc⟩
theorem greedy_uniq {n : Nat} {P : Nat → Nat → Bool} {p q : List Int} (hp : GreedyP n P p) (hq : GreedyP n P q) : p = q := by
  have key : ∀ i, i ≤ n → p.take i = q.take i := by
    intro i
    induction i with
    | zero => intro _; rfl
    | succ i ih =>
      intro hi
      have ih' := ih (by omega)
      have l1 : i < p.length := by rw [hp.1.1]; omega
      have l2 : i < q.length := by rw [hq.1.1]; omega
      have h1 : p[i]? = some p[i] := List.getElem?_eq_getElem l1
      have h2 : q[i]? = some q[i] := List.getElem?_eq_getElem l2
      have b1 := hp.1.2.2 _ (List.mem_of_getElem? h1)
      have b2 := hq.1.2.2 _ (List.mem_of_getElem? h2)
      rw [take_snoc' h1, take_snoc' h2, ih']
      have : p[i] = q[i] := by
        rcases Int.lt_trichotomy p[i] q[i] with h | h | h
        · exact absurd (by rw [← ih']; exact ext_of hp.1 hp.2.1 h1) (hq.2.2 i _ _ h2 b1.1 h)
        · exact h
        · exact absurd (by rw [ih']; exact ext_of hq.1 hq.2.1 h2) (hp.2.2 i _ _ h1 b2.1 h)
      rw [this]
  have := key n (Nat.le_refl _)
  rwa [List.take_of_length_le (by rw [hp.1.1]; exact Nat.le_refl _), List.take_of_length_le (by rw [hq.1.1]; exact Nat.le_refl _)] at this
theorem upto_lt (n : Nat) : (upto n).Pairwise (· < ·) := by
  unfold upto
  rw [List.pairwise_map]
  exact List.pairwise_lt_range.imp fun h => by simpa using h
theorem permL_isPm {n r : Nat} (h : r < factN n) : IsPm n (permL n (upto n) r) := by
  obtain ⟨h1, h2⟩ := permL_sub n (upto n) r (len_upto n) h (nodup_upto n)
  exact ⟨permL_len _ _ _, h1, fun x hx => mem_upto.1 (h2 x hx)⟩
/-- The first rank whose permutation covers: the greedy permutation. -/
theorem first_greedy {n r : Nat} {P : Nat → Nat → Bool} (h : r < factN n) (hc : CoverP P (permL n (upto n) r)) (hf : ∀ r', r' < r → ¬ CoverP P (permL n (upto n) r')) : GreedyP n P (permL n (upto n) r) := by
  refine ⟨permL_isPm h, hc, fun i x o hx h0 hlt he => ?_⟩
  obtain ⟨rest, h1, h2⟩ := he
  obtain ⟨r', h3, h4⟩ := permL_onto n (upto n) _ (len_upto n) h1.1 h1.2.1 (fun y hy => mem_upto.2 (h1.2.2 y hy)) (nodup_upto n)
  have hi : i < n := by have := (List.getElem?_eq_some_iff.1 hx).1; rwa [permL_len] at this
  have hl : ((permL n (upto n) r).take i).length = i := by rw [List.length_take, permL_len]; omega
  refine hf r' ?_ (by rw [h4]; exact h2)
  refine permL_lex n (upto n) r r' i x o (len_upto n) (upto_lt n) h h3 ?_ hx ?_ hlt
  · rw [h4, List.append_assoc, List.take_append_of_le_length (by omega), List.take_of_length_le (by omega)]
  · rw [h4, List.append_assoc, List.getElem?_append_right (by omega), hl]; simp
theorem no_first {n : Nat} {P : Nat → Nat → Bool} (hf : ∀ r', r' < factN n → ¬ CoverP P (permL n (upto n) r')) : ¬ ExtP n P [] := by
  rintro ⟨rest, h1, h2⟩
  obtain ⟨r', h3, h4⟩ := permL_onto n (upto n) _ (len_upto n) h1.1 h1.2.1 (fun y hy => mem_upto.2 (h1.2.2 y hy)) (nodup_upto n)
  exact hf r' h3 (by rw [h4]; exact h2)
/-- Just the outputs of a list are taken. -/
def TakenOf (n : Nat) (p : List Int) (T : List Bool) : Prop := T.length = n ∧ ∀ c, c < n → (T.getD c true = true ↔ (c : Int) ∈ p)
theorem taken_nil (n : Nat) : TakenOf n [] (List.replicate n false) := by
  refine ⟨by simp, fun c hc => ?_⟩
  rw [List.getD_eq_getElem?_getD, List.getElem?_replicate, if_pos hc]; simp
theorem taken_snoc {n o : Nat} {p : List Int} {T : List Bool} (h : TakenOf n p T) (ho : o < n) : TakenOf n (p ++ [(o : Int)]) (T.set o true) := by
  refine ⟨by simp [h.1], fun c hc => ?_⟩
  rw [getD_set]
  by_cases e : o = c
  · subst e; rw [if_pos ⟨rfl, by rw [h.1]; exact ho⟩]; simp
  · rw [if_neg (fun h => e h.1), h.2 c hc]; simp; omega
theorem taken_back {n o : Nat} {p : List Int} {T : List Bool} (h : TakenOf n p T) (ho : o < n) (hn : (o : Int) ∉ p) : (T.set o true).set o false = T := by
  rw [List.set_set]
  apply List.ext_getElem?
  intro c
  rw [List.getElem?_set]
  by_cases e : o = c
  · subst e
    have hl : o < T.length := by rw [h.1]; exact ho
    rw [if_pos rfl, if_pos hl]
    have := h.2 o ho
    rw [List.getD_eq_getElem?_getD, List.getElem?_eq_getElem hl, Option.getD_some] at this
    rw [List.getElem?_eq_getElem hl]
    cases hT : T[o] with
    | false => rfl
    | true => exact absurd (this.1 hT) hn
  · rw [if_neg e]
theorem mat_ext {n : Nat} {P : Nat → Nat → Bool} {p : List Int} {T : List Bool} (hl : p.length ≤ n) (hn : p.Nodup) (hb : ∀ x ∈ p, 0 ≤ x ∧ x < n) (hc : CoverP P p) (hT : TakenOf n p T) : Mat n P T p.length ↔ ExtP n P p := by
  constructor
  · rintro ⟨g, h1, h2⟩
    let rest : List Int := (List.range (n - p.length)).map fun t => (g (p.length + t) : Int)
    have hm : ∀ x ∈ rest, ∃ t, t < n - p.length ∧ x = (g (p.length + t) : Int) := fun x hx => by
      obtain ⟨t, ht, rfl⟩ := List.mem_map.1 hx
      exact ⟨t, List.mem_range.1 ht, rfl⟩
    refine ⟨rest, ⟨by simp [rest]; omega, ?_, fun x hx => ?_⟩, fun i x hx => ?_⟩
    · unfold List.Nodup at hn ⊢
      rw [List.pairwise_append]
      refine ⟨hn, ?_, fun a ha b hb' he => ?_⟩
      · show List.Pairwise _ ((List.range (n - p.length)).map _)
        rw [List.pairwise_map]
        refine List.Pairwise.imp_of_mem ?_ (List.nodup_range (n := n - p.length))
        intro a b ha hb' hne he
        have := h2 (p.length + a) (p.length + b) (by omega) (by have := List.mem_range.1 ha; omega) (by omega) (by have := List.mem_range.1 hb'; omega) (by omega)
        omega
      · obtain ⟨t, ht, rfl⟩ := hm b hb'
        obtain ⟨h3, h4, _⟩ := h1 (p.length + t) (by omega) (by omega)
        have := (hT.2 _ h3).2 (by rw [← he]; exact ha)
        rw [h4] at this; cases this
    · rcases List.mem_append.1 hx with h | h
      · exact hb x h
      · obtain ⟨t, ht, rfl⟩ := hm x h
        have := (h1 (p.length + t) (by omega) (by omega)).1
        omega
    · rcases Nat.lt_or_ge i p.length with hlt | hge
      · rw [List.getElem?_append_left hlt] at hx; exact hc i x hx
      · rw [List.getElem?_append_right hge] at hx
        have hil : i - p.length < n - p.length := by have := (List.getElem?_eq_some_iff.1 hx).1; simpa [rest] using this
        have hx' : x = (g i : Int) := by
          simp [rest, hil] at hx
          rw [← hx, show p.length + (i - p.length) = i by omega]
        have := (h1 i hge (by omega)).2.2
        rw [hx']; simpa using this
  · rintro ⟨rest, h1, h2⟩
    have hat : ∀ i, i < n → (p ++ rest)[i]? = some ((p ++ rest).getD i 0) := fun i hi => getD_at (by rw [h1.1]; exact hi)
    refine ⟨fun i => ((p ++ rest).getD i 0).toNat, fun i h3 h4 => ?_, fun i j h3 h4 h5 h6 he => ?_⟩
    · simp only
      have h5 := hat i h4
      have h6 := h1.2.2 _ (List.mem_of_getElem? h5)
      have h7 := h2 i _ h5
      refine ⟨by omega, ?_, h7⟩
      generalize hv : (p ++ rest).getD i 0 = v at *
      cases ht : T.getD v.toNat true with
      | false => rfl
      | true =>
        exfalso
        have h8 := (hT.2 v.toNat (by omega)).1 ht
        rw [show ((v.toNat : Nat) : Int) = v by omega] at h8
        obtain ⟨j, hj⟩ := List.getElem?_of_mem h8
        have hjl := (List.getElem?_eq_some_iff.1 hj).1
        have hj' : (p ++ rest)[j]? = some v := by rw [List.getElem?_append_left hjl]; exact hj
        have hnd := h1.2.1
        unfold List.Nodup at hnd
        exact pairwise_at hnd hj' h5 (by omega) rfl
    · have h7 := hat i h4
      have h8 := hat j h6
      have b7 := h1.2.2 _ (List.mem_of_getElem? h7)
      have b8 := h1.2.2 _ (List.mem_of_getElem? h8)
      simp only at he
      have he' : (p ++ rest).getD i 0 = (p ++ rest).getD j 0 := by omega
      rw [he'] at h7
      have hnd := h1.2.1
      unfold List.Nodup at hnd
      rcases Nat.lt_trichotomy i j with h | h | h
      · exact absurd rfl (pairwise_at hnd h7 h8 h)
      · exact h
      · exact absurd rfl (pairwise_at hnd h8 h7 h)
theorem cover_nil (P : Nat → Nat → Bool) : CoverP P [] := fun i x hx => by simp at hx
theorem ext_next {n : Nat} {P : Nat → Nat → Bool} {p : List Int} (h : ExtP n P p) (hl : p.length < n) : ∃ o : Nat, o < n ∧ ExtP n P (p ++ [(o : Int)]) := by
  obtain ⟨rest, h1, h2⟩ := h
  cases rest with
  | nil => have := h1.1; simp at this; omega
  | cons x rest =>
    have hb := h1.2.2 x (by simp)
    refine ⟨x.toNat, by omega, rest, ?_⟩
    have e : p ++ [((x.toNat : Nat) : Int)] ++ rest = p ++ x :: rest := by rw [show ((x.toNat : Nat) : Int) = x by omega]; simp
    rw [e]; exact ⟨h1, h2⟩
theorem ext_cover {n : Nat} {P : Nat → Nat → Bool} {p : List Int} {o : Nat} (h : ExtP n P (p ++ [(o : Int)])) : P p.length o = true ∧ (o : Int) ∉ p := by
  obtain ⟨rest, h1, h2⟩ := h
  constructor
  · have := h2 p.length (o : Int) (by rw [List.append_assoc, List.getElem?_append_right (Nat.le_refl _)]; simp)
    simpa using this
  · have hnd := h1.2.1
    unfold List.Nodup at hnd
    rw [List.append_assoc, List.pairwise_append] at hnd
    exact fun hm => hnd.2.2 _ hm (o : Int) (by simp) rfl
theorem cover_snoc {P : Nat → Nat → Bool} {p : List Int} {o : Nat} (h : CoverP P p) (ho : P p.length o = true) : CoverP P (p ++ [(o : Int)]) := fun i x hx => by
  rcases Nat.lt_or_ge i p.length with hlt | hge
  · rw [List.getElem?_append_left hlt] at hx; exact h i x hx
  · rw [List.getElem?_append_right hge] at hx
    have hi : i - p.length = 0 := by have := (List.getElem?_eq_some_iff.1 hx).1; simp at this; omega
    rw [hi] at hx; simp at hx; subst hx
    rw [show i = p.length by omega]; simpa using ho
theorem greedyTo_snoc {n : Nat} {P : Nat → Nat → Bool} {p : List Int} {o : Nat} (h : GreedyTo n P p) (ho : ∀ o' : Nat, o' < o → ¬ ExtP n P (p ++ [(o' : Int)])) : GreedyTo n P (p ++ [(o : Int)]) := fun i x q hx h0 hlt => by
  rcases Nat.lt_or_ge i p.length with h1 | h1
  · rw [List.getElem?_append_left h1] at hx
    rw [List.take_append_of_le_length (by omega)]
    exact h i x q hx h0 hlt
  · rw [List.getElem?_append_right h1] at hx
    have hi : i - p.length = 0 := by have := (List.getElem?_eq_some_iff.1 hx).1; simp at this; omega
    rw [hi] at hx; simp at hx; subst hx
    obtain rfl : i = p.length := by omega
    rw [List.take_left]
    have := ho q.toNat (by omega)
    rwa [show ((q.toNat : Nat) : Int) = q by omega] at this
/-- What the search for the least permutation knows ahead of the input p.length. -/
structure LeastTo (n : Nat) (P : Nat → Nat → Bool) (p : List Int) (T : List Bool) : Prop where
  len : p.length ≤ n
  nd : p.Nodup
  bd : ∀ x ∈ p, 0 ≤ x ∧ x < n
  cov : CoverP P p
  tak : TakenOf n p T
  low : GreedyTo n P p
  ext : p = [] ∨ ExtP n P p
theorem least_zero (n : Nat) (P : Nat → Nat → Bool) : LeastTo n P [] (List.replicate n false) :=
  ⟨by simp, List.nodup_nil, fun x hx => (by cases hx), cover_nil P, taken_nil n, fun i x o hx => by simp at hx, .inl rfl⟩
theorem least_try {n o : Nat} {P : Nat → Nat → Bool} {p : List Int} {T : List Bool} (h : LeastTo n P p T) (ho : o < n) (hp : P p.length o = true) (ht : T.getD o true = false) (hl : p.length < n) :
    Mat n P (T.set o true) (p.length + 1) ↔ ExtP n P (p ++ [(o : Int)]) := by
  have hno : (o : Int) ∉ p := fun hm => by rw [(h.tak.2 o ho).2 hm] at ht; cases ht
  have := mat_ext (n := n) (P := P) (p := p ++ [(o : Int)]) (T := T.set o true) (by simp; omega) (by
    unfold List.Nodup; rw [List.pairwise_append]
    exact ⟨h.nd, by simp, fun a ha b hb he => by simp at hb; subst hb; subst he; exact hno ha⟩) (fun x hx => by
    rcases List.mem_append.1 hx with h1 | h1
    · exact h.bd x h1
    · simp at h1; subst h1; omega) (cover_snoc h.cov hp) (taken_snoc h.tak ho)
  rw [List.length_append] at this
  exact this
theorem least_next {n o : Nat} {P : Nat → Nat → Bool} {p : List Int} {T : List Bool} (h : LeastTo n P p T) (ho : o < n) (hl : p.length < n) (hlow : ∀ o' : Nat, o' < o → ¬ ExtP n P (p ++ [(o' : Int)])) (he : ExtP n P (p ++ [(o : Int)])) : LeastTo n P (p ++ [(o : Int)]) (T.set o true) := by
  obtain ⟨h1, h2⟩ := ext_cover he
  refine ⟨by simp; omega, ?_, fun x hx => ?_, cover_snoc h.cov h1, taken_snoc h.tak ho, greedyTo_snoc h.low hlow, .inr he⟩
  · unfold List.Nodup; rw [List.pairwise_append]
    exact ⟨h.nd, by simp, fun a ha b hb he => by simp at hb; subst hb; subst he; exact h2 ha⟩
  · rcases List.mem_append.1 hx with h3 | h3
    · exact h.bd x h3
    · simp at h3; subst h3; omega
theorem least_stop {n : Nat} {P : Nat → Nat → Bool} {p : List Int} {T : List Bool} (h : LeastTo n P p T) (hl : p.length < n) (hno : ∀ o : Nat, o < n → ¬ ExtP n P (p ++ [(o : Int)])) : ¬ ExtP n P [] := by
  rcases h.ext with rfl | he
  · intro he
    obtain ⟨o, h1, h2⟩ := ext_next he hl
    exact hno o h1 h2
  · obtain ⟨o, h1, h2⟩ := ext_next he hl
    exact absurd h2 (hno o h1)
theorem least_done {n : Nat} {P : Nat → Nat → Bool} {p : List Int} {T : List Bool} (h : LeastTo n P p T) (hl : n ≤ p.length) : GreedyP n P p := by
  have hn : p.length = n := by have := h.len; omega
  exact ⟨⟨hn, h.nd, h.bd⟩, h.cov, h.low⟩
end Go.Proofs.Ythfjlellaojdmaa
