/- Plain lemmas on lists of numbers: how long a list without repetition can be, and that a number is missing in a short list. No condition. -/
namespace Go.Proofs.Ytiahpaakkijejaa
set_option linter.unusedSimpArgs false
set_option linter.unusedVariables false
/-- The numbers from 0 to n-1. -/
def upto (n : Nat) : List Int := (List.range n).map Int.ofNat
theorem mem_upto {n : Nat} {x : Int} : x ∈ upto n ↔ 0 ≤ x ∧ x < n := by
  unfold upto
  rw [List.mem_map]
  constructor
  · rintro ⟨k, hk, rfl⟩
    rw [List.mem_range] at hk
    simp; omega
  · rintro ⟨h0, h1⟩
    exact ⟨x.toNat, by rw [List.mem_range]; omega, by simp; omega⟩
theorem len_upto (n : Nat) : (upto n).length = n := by simp [upto]
theorem upto_at {n k : Nat} (h : k < n) : (upto n)[k]? = some (k : Int) := by simp [upto, h]
theorem nodup_upto (n : Nat) : (upto n).Nodup := by
  unfold upto List.Nodup
  rw [List.pairwise_map]
  exact (List.nodup_range (n := n)).imp (fun h e => h (Int.ofNat.inj e))
theorem upto_succ (n : Nat) : upto (n + 1) = upto n ++ [(n : Int)] := by simp [upto, List.range_succ]
theorem nodup_len_le {l : List Int} {n : Nat} (h : l.Nodup) (hb : ∀ x ∈ l, 0 ≤ x ∧ x < n) : l.length ≤ n := by
  have := h.length_le_of_subset (l₂ := upto n) (fun x hx => mem_upto.2 (hb x hx))
  rwa [len_upto] at this
theorem nodup_map_add {l : List Int} (d : Int) (h : l.Nodup) : (l.map (· - d)).Nodup := by
  unfold List.Nodup
  rw [List.pairwise_map]
  exact h.imp (fun h e => h (by omega))
theorem nodup_len_in {l : List Int} {lo : Int} {n : Nat} (h : l.Nodup) (hb : ∀ x ∈ l, lo ≤ x ∧ x < lo + n) : l.length ≤ n := by
  have := nodup_len_le (n := n) (nodup_map_add lo h) (fun x hx => by
    rw [List.mem_map] at hx
    obtain ⟨y, hy, rfl⟩ := hx
    have := hb y hy
    omega)
  simpa using this
theorem nodup_len_nat {l : List Nat} {n : Nat} (h : l.Nodup) (hb : ∀ x ∈ l, x < n) : l.length ≤ n := by
  have := h.length_le_of_subset (l₂ := List.range n) (fun x hx => List.mem_range.2 (hb x hx))
  rwa [List.length_range] at this
theorem exists_not_mem {l : List Int} {n : Nat} (h : l.length < n) : ∃ v : Int, 0 ≤ v ∧ v < n ∧ v ∉ l := by
  by_cases hx : ∃ v : Int, 0 ≤ v ∧ v < n ∧ v ∉ l
  · exact hx
  · exfalso
    have hs : upto n ⊆ l := fun v hv => by
      have := mem_upto.1 hv
      by_cases hm : v ∈ l
      · exact hm
      · exact absurd ⟨v, this.1, this.2, hm⟩ hx
    have := (nodup_upto n).length_le_of_subset hs
    rw [len_upto] at this
    omega
theorem mem_take_at {α : Type} {xs : List α} {k : Nat} {x : α} (h : x ∈ xs.take k) : ∃ j, j < k ∧ xs[j]? = some x := by
  obtain ⟨j, hj⟩ := List.getElem?_of_mem h
  rw [List.getElem?_take] at hj
  split at hj
  · exact ⟨j, by assumption, hj⟩
  · cases hj
theorem at_mem_take {α : Type} {xs : List α} {j k : Nat} {x : α} (hj : j < k) (h : xs[j]? = some x) : x ∈ xs.take k := by
  apply List.mem_of_getElem? (i := j)
  rw [List.getElem?_take, if_pos hj]; exact h
theorem pairwise_at {α : Type} {R : α → α → Prop} {xs : List α} (h : xs.Pairwise R) {j k : Nat} {x y : α} (hx : xs[j]? = some x) (hy : xs[k]? = some y) (hlt : j < k) : R x y := by
  rw [List.pairwise_iff_getElem] at h
  obtain ⟨h1, rfl⟩ := List.getElem?_eq_some_iff.1 hx
  obtain ⟨h2, rfl⟩ := List.getElem?_eq_some_iff.1 hy
  exact h j k h1 h2 hlt
theorem take_snoc' {α : Type} {xs : List α} {k : Nat} {x : α} (h : xs[k]? = some x) : xs.take (k + 1) = xs.take k ++ [x] := by
  rw [List.take_add_one, h]; rfl
/-- Each number from 0 to one less than the length stands in the list, once. -/
def PermOk (p : List Int) : Prop := ∀ (i : Nat) x, p[i]? = some x → 0 ≤ x ∧ x < p.length ∧ x ∉ p.take i
def PermTo (p : List Int) (k : Nat) : Prop := ∀ (i : Nat) x, i < k → p[i]? = some x → 0 ≤ x ∧ x < p.length ∧ x ∉ p.take i
theorem PermTo.succ {p : List Int} {k : Nat} {x : Int} (h : PermTo p k) (hx : p[k]? = some x) (h0 : 0 ≤ x) (h1 : x < p.length) (h2 : x ∉ p.take k) : PermTo p (k + 1) := by
  intro i y hi hy
  rcases (by omega : i < k ∨ i = k) with h3 | rfl
  · exact h i y h3 hy
  · rw [hx] at hy; injection hy with hy; subst hy; exact ⟨h0, h1, h2⟩
theorem PermTo.done {p : List Int} {k : Nat} (h : PermTo p k) (hk : p.length ≤ k) : PermOk p := fun i x hx => h i x (by have := (List.getElem?_eq_some_iff.1 hx).1; omega) hx
theorem PermOk.nodup {p : List Int} (h : PermOk p) : p.Nodup := by
  unfold List.Nodup
  rw [List.pairwise_iff_getElem]
  intro i j hi hj hij he
  exact (h j p[j] (List.getElem?_eq_getElem hj)).2.2 (by rw [← he]; exact at_mem_take hij (List.getElem?_eq_getElem hi))
theorem PermOk.mem {p : List Int} (h : PermOk p) {x : Int} (hx : x ∈ p) : 0 ≤ x ∧ x < p.length := by
  obtain ⟨i, hi⟩ := List.getElem?_of_mem hx
  exact ⟨(h i x hi).1, (h i x hi).2.1⟩
end Go.Proofs.Ytiahpaakkijejaa
