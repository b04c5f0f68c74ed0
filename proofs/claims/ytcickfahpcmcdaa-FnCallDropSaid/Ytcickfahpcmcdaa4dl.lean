/- The plain law behind FnCallDrop. No condition. -/
import Derived.Test.Ytcickfahpcmcdaa4dr
namespace Go.Proofs.Ytcickfahpcmcdaa
open Go.RowKit
set_option linter.unusedSimpArgs false
set_option linter.unusedVariables false
theorem keep_none {i : Int} {xs : List Cl} (h : ∀ c ∈ xs, c.i ≠ i) : xs.filter (keepP i) = xs := List.filter_eq_self.2 fun c hc => by have := h c hc; simp [keepP]; exact this
theorem keep_one {i : Int} : ∀ xs : List Cl, (xs.map Cl.i).Nodup → (∃ c ∈ xs, c.i = i) → (xs.filter (keepP i)).length + 1 = xs.length := by
  intro xs
  induction xs with
  | nil => intro _ ⟨c, hc, _⟩; simp at hc
  | cons x t ih =>
    intro hn ⟨c, hc, hi⟩
    rw [List.map_cons, List.nodup_cons] at hn
    by_cases hx : x.i = i
    · have h1 : keepP i x = false := by simp [keepP, hx]
      rw [List.filter_cons_of_neg (by rw [h1]; simp), keep_none (fun d hd e => hn.1 (by rw [hx, ← e]; exact List.mem_map.2 ⟨d, hd, rfl⟩))]
      simp
    · have h1 : keepP i x = true := by simp [keepP, hx]
      have hc' : c ∈ t := by
        rcases List.mem_cons.1 hc with rfl | h
        · exact absurd hi hx
        · exact h
      rw [List.filter_cons_of_pos h1]
      have := ih hn.2 ⟨c, hc', hi⟩
      simp
      omega
theorem drop_facts {o e m i : Int} {xs ys : List Cl} {b : Bool} (h : dropL o e m xs i = (ys, b)) (hok : CallsOk o e m xs) :
    CallsOk o e m ys ∧ (b = true ↔ ∃ c ∈ xs, c.i = i ∨ c.o = -1) ∧ (¬ ∃ c ∈ ys, c.i = i ∨ c.o = -1) ∧ (b = true → ys.length + 1 = xs.length) ∧ (b = false → ys = xs) := by
  unfold dropL at h
  rw [if_pos hok] at h
  injection h with h1 h2
  subst h1
  subst h2
  have ho : ∀ c ∈ xs, c.o ≠ -1 := fun c hc he => by
    have := (hok.2.1 c hc).2.1
    unfold LineOk at this
    omega
  have hex : (∃ c ∈ xs, c.i = i ∨ c.o = -1) ↔ ∃ c ∈ xs, c.i = i := ⟨fun ⟨c, hc, h⟩ => ⟨c, hc, h.resolve_right (ho c hc)⟩, fun ⟨c, hc, h⟩ => ⟨c, hc, .inl h⟩⟩
  have hb : (xs.filter (keepP i)).length < xs.length ↔ ∃ c ∈ xs, c.i = i := by
    constructor
    · intro hl
      by_cases hx : ∃ c ∈ xs, c.i = i
      · exact hx
      · rw [keep_none (fun c hc e => hx ⟨c, hc, e⟩)] at hl; omega
    · intro hx
      have := keep_one xs (nodup_ins hok) hx
      omega
  refine ⟨⟨hok.1, fun c hc => hok.2.1 c (List.mem_filter.1 hc).1, hok.2.2.filter _⟩, by rw [hex, ← hb]; simp, ?_, fun h => ?_, fun h => ?_⟩
  · rintro ⟨c, hc, h⟩
    obtain ⟨h3, h4⟩ := List.mem_filter.1 hc
    rcases h with h | h
    · simp [keepP] at h4; exact h4 h
    · exact ho c h3 h
  · exact keep_one xs (nodup_ins hok) (hb.1 (of_decide_eq_true h))
  · exact keep_none (fun c hc e => absurd (hb.2 ⟨c, hc, e⟩) (of_decide_eq_false h))
theorem drop_bad {o e m i : Int} {xs ys : List Cl} {b : Bool} (h : dropL o e m xs i = (ys, b)) (hok : ¬ CallsOk o e m xs) : ys = [] ∧ b = false := by
  unfold dropL at h
  rw [if_neg hok] at h
  injection h with h1 h2
  exact ⟨h1.symm, h2.symm⟩
end Go.Proofs.Ytcickfahpcmcdaa
