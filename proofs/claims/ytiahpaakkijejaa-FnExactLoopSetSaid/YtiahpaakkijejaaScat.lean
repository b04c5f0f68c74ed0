/- Lists that are written place by place, in some order: what they hold in the end. No condition. -/
import Derived.Test.YtiahpaakkijejaaPlain
namespace Go.Proofs.Ytiahpaakkijejaa
set_option linter.unusedSimpArgs false
set_option linter.unusedVariables false
/-- The list d behind k writes; st tells of each write its place and its value, or that there is none. -/
def scat {α : Type} (d : List α) (st : Nat → Option (Nat × α)) : Nat → List α
  | 0 => d
  | k + 1 => match st k with
    | none => scat d st k
    | some q => (scat d st k).set q.1 q.2
section
variable {α : Type} {d : List α} {st : Nat → Option (Nat × α)}
theorem scat_none {k : Nat} (h : st k = none) : scat d st (k + 1) = scat d st k := by
  show (match st k with | none => scat d st k | some q => (scat d st k).set q.1 q.2) = _
  rw [h]
theorem scat_some {k i : Nat} {x : α} (h : st k = some (i, x)) : scat d st (k + 1) = (scat d st k).set i x := by
  show (match st k with | none => scat d st k | some q => (scat d st k).set q.1 q.2) = _
  rw [h]
theorem scat_len (k : Nat) : (scat d st k).length = d.length := by
  induction k with
  | zero => rfl
  | succ k ih =>
    cases h : st k with
    | none => rw [scat_none h, ih]
    | some q => obtain ⟨i, x⟩ := q; rw [scat_some h, List.length_set, ih]
theorem scat_at {F : Nat → α} (k : Nat) (h : ∀ j, j < k → ∀ i x, st j = some (i, x) → x = F i) (i : Nat) (hi : i < d.length) :
    ((∃ j, j < k ∧ ∃ x, st j = some (i, x)) → (scat d st k)[i]? = some (F i)) ∧ ((¬ ∃ j, j < k ∧ ∃ x, st j = some (i, x)) → (scat d st k)[i]? = d[i]?) := by
  induction k with
  | zero => exact ⟨fun ⟨j, hj, _⟩ => by omega, fun _ => rfl⟩
  | succ k ih =>
    obtain ⟨h1, h2⟩ := ih (fun j hj => h j (by omega))
    cases hs : st k with
    | none =>
      rw [scat_none hs]
      refine ⟨fun ⟨j, hj, x, hx⟩ => h1 ⟨j, ?_, x, hx⟩, fun hn => h2 fun ⟨j, hj, x, hx⟩ => hn ⟨j, by omega, x, hx⟩⟩
      rcases (by omega : j < k ∨ j = k) with e | rfl
      · exact e
      · rw [hs] at hx; cases hx
    | some q =>
      obtain ⟨i', x'⟩ := q
      rw [scat_some hs, List.getElem?_set, scat_len]
      have hx' := h k (by omega) i' x' hs
      by_cases e : i' = i
      · subst e
        rw [if_pos rfl, if_pos hi, hx']
        exact ⟨fun _ => rfl, fun hn => absurd ⟨k, by omega, x', hs⟩ hn⟩
      · rw [if_neg e]
        refine ⟨fun ⟨j, hj, x, hx⟩ => h1 ⟨j, ?_, x, hx⟩, fun hn => h2 fun ⟨j, hj, x, hx⟩ => hn ⟨j, by omega, x, hx⟩⟩
        rcases (by omega : j < k ∨ j = k) with e2 | rfl
        · exact e2
        · rw [hs] at hx; injection hx with hx; injection hx with hx; exact absurd hx e
/-- Each place is written. -/
theorem scat_all {F : Nat → α} {k n : Nat} (hd : d.length = n) (h : ∀ j, j < k → ∀ i x, st j = some (i, x) → x = F i) (hm : ∀ i, i < n → ∃ j, j < k ∧ ∃ x, st j = some (i, x)) : scat d st k = (List.range n).map F := by
  apply List.ext_getElem?
  intro i
  by_cases hi : i < n
  · rw [(scat_at k h i (by omega)).1 (hm i hi)]; simp [hi]
  · rw [List.getElem?_eq_none (by rw [scat_len]; omega), List.getElem?_eq_none (by simp; omega)]
/-- Marks: all that is written is true. -/
theorem scat_marks {st : Nat → Option (Nat × Bool)} {n k : Nat} (h : ∀ j, j < k → ∀ i x, st j = some (i, x) → x = true) {F : Nat → Bool} (hF : ∀ i, i < n → (F i = true ↔ ∃ j, j < k ∧ ∃ x, st j = some (i, x))) :
    scat (List.replicate n false) st k = (List.range n).map F := by
  apply List.ext_getElem?
  intro i
  by_cases hi : i < n
  · obtain ⟨h1, h2⟩ := scat_at (d := List.replicate n false) (st := st) (F := fun _ => true) k (fun j hj i x hx => h j hj i x hx) i (by simpa using hi)
    have hr : ((List.range n).map F)[i]? = some (F i) := by simp [hi]
    rw [hr]
    cases hf : F i with
    | true => exact h1 ((hF i hi).1 hf)
    | false =>
      rw [h2 (fun hx => by rw [(hF i hi).2 hx] at hf; cases hf), List.getElem?_replicate, if_pos hi]
  · rw [List.getElem?_eq_none (by rw [scat_len]; simp; omega), List.getElem?_eq_none (by simp; omega)]
end
end Go.Proofs.Ytiahpaakkijejaa
