/- CallMove of the program: the calls with a further one, others moved if need be. Condition: at most 1048576 calls. -/
import Derived.Test.Ytcickfahpcmcdaa4mo
namespace Go.Proofs.Ytcickfahpcmcdaa
open Go.RowKit
set_option linter.unusedSimpArgs false
set_option linter.unusedVariables false
theorem enough_ok {o e m : Int} : enoughB o e m = true ↔ ShapeOk o e m ∧ e ≤ m := by
  unfold enoughB; rw [Bool.and_eq_true, shape_ok, decide_eq_true_eq]
/-- The place of the t-th call of the chain as a number; -1 if there is none. -/
def atI (cs : List Cl) (e a b x0 : Int) (t : Nat) : Int := match chainJ cs e a b x0 t with | some k => (k : Int) | none => -1
section
variable {o e m a b x0 : Int} {cs : List Cl}
theorem atI_some {t k : Nat} (h : chainJ cs e a b x0 t = some k) : atI cs e a b x0 t = k := by unfold atI; rw [h]
theorem atI_none {t : Nat} (h : chainJ cs e a b x0 t = none) : atI cs e a b x0 t = -1 := by unfold atI; rw [h]
theorem flips_lines (h : Chn o e m a b x0 cs) (t : Nat) : ∀ c ∈ flips cs e a b x0 t, (0 ≤ c.i ∧ c.i ≤ 1000) ∧ (0 ≤ c.o ∧ c.o ≤ 1000) := by
  intro c hc
  obtain ⟨k, hk⟩ := List.getElem?_of_mem hc
  have hp := prod_bd h.ok.1
  by_cases hch : Chosen cs e a b x0 t k
  · rw [(flips_both h t k).1 hch] at hk
    obtain ⟨c0, hc0, rfl⟩ := Option.map_eq_some_iff.1 hk
    have := h.ok.okAt hc0
    unfold OkC LineOk at this
    unfold flipC
    simp only
    omega
  · rw [(flips_both h t k).2 hch] at hk
    have := h.ok.okAt hk
    unfold OkC LineOk at this
    omega
/-- What stands at the place that is to be moved next. -/
theorem flips_here (h : Chn o e m a b x0 cs) {t l : Nat} (hc : chainJ cs e a b x0 t = some l) : ∃ d, cs[l]? = some d ∧ (flips cs e a b x0 t)[l]? = some d ∧ d.v = viaJ a b t := by
  obtain ⟨d, hd, hv, _⟩ := chain_at h hc
  have hno : ¬ Chosen cs e a b x0 t l := fun ⟨j, hj, hk⟩ => by have := chain_inj h hk hc; omega
  exact ⟨d, hd, by rw [(flips_both h t l).2 hno]; exact hd, hv⟩
theorem flips_set (h : Chn o e m a b x0 cs) {t l : Nat} {d : Cl} (hc : chainJ cs e a b x0 t = some l) (hd : (flips cs e a b x0 t)[l]? = some d) (hv : d.v = viaJ a b t) : (flips cs e a b x0 t).set l ⟨d.i, d.o, viaJ a b (t + 1)⟩ = flips cs e a b x0 (t + 1) := by
  rw [flips_some hc]
  apply List.ext_getElem?
  intro j
  rw [List.getElem?_set]
  have hl := (List.getElem?_eq_some_iff.1 hd).1
  by_cases hj : l = j
  · subst hj
    rw [if_pos rfl, if_pos hl, List.getElem?_modify_eq, hd]
    show _ = some (flipC a b d)
    unfold flipC; rw [via_succ, hv]
  · rw [if_neg hj, List.getElem?_modify_ne _ _ hj]
theorem via_even (a b : Int) (s : Nat) : viaJ a b (2 * s) = a := by unfold viaJ; rw [if_pos (by omega)]
theorem via_odd (a b : Int) (s : Nat) : viaJ a b (2 * s + 1) = b := by unfold viaJ; rw [if_neg (by omega)]
/-- callTo at the beginning. -/
theorem found_zero (h : Chn o e m a b x0 cs) {r : Int} (hr : FoundT e cs x0 a (-1) r) : r = atI cs e a b x0 0 := by
  rcases hr with ⟨rfl, hn⟩ | ⟨k, c, rfl, hc, _, hv, ho⟩
  · cases hcc : chainJ cs e a b x0 0 with
    | none => rw [atI_none hcc]
    | some k =>
      obtain ⟨c, hc, hv, ho⟩ := (chain_zero h).1 hcc
      exact absurd ho (hn k c hc (by omega) hv)
  · rw [atI_some ((chain_zero h).2 ⟨c, hc, hv, ho⟩)]
/-- callFrom behind a call that was moved to b. -/
theorem found_from (h : Chn o e m a b x0 cs) {s l : Nat} {d : Cl} {r : Int} (hc : chainJ cs e a b x0 (2 * s) = some l) (hd : cs[l]? = some d) (hr : FoundF e (flips cs e a b x0 (2 * s + 1)) (d.i / e) b l r) : r = atI cs e a b x0 (2 * s + 1) := by
  have key := fun k => chain_next h hc hd (k := k)
  have ho : outJ e (2 * s) d = d.i / e := by unfold outJ; rw [if_pos (by omega)]
  have hi : ∀ c, innJ e (2 * s + 1) c = c.i / e := fun c => by unfold innJ; rw [if_neg (by omega)]
  rw [via_odd, ho] at key
  rcases hr with ⟨rfl, hn⟩ | ⟨k, c, rfl, hcc, hne, hv, hx⟩
  · cases hch : chainJ cs e a b x0 (2 * s + 1) with
    | none => rw [atI_none hch]
    | some k =>
      obtain ⟨hne, c, h1, h2, h3⟩ := (key k).1 hch
      rw [hi] at h3
      exact absurd h3 (hn k c h1 (by omega) h2)
  · rw [atI_some ((key k).2 ⟨by omega, c, hcc, hv, by rw [hi]; exact hx⟩)]
/-- callTo behind a call that was moved to a. -/
theorem found_to (h : Chn o e m a b x0 cs) {s l : Nat} {d : Cl} {r : Int} (hc : chainJ cs e a b x0 (2 * s + 1) = some l) (hd : cs[l]? = some d) (hr : FoundT e (flips cs e a b x0 (2 * s + 2)) (d.o / e) a l r) : r = atI cs e a b x0 (2 * s + 2) := by
  have key := fun k => chain_next h hc hd (k := k)
  have ho : outJ e (2 * s + 1) d = d.o / e := by unfold outJ; rw [if_neg (by omega)]
  have hi : ∀ c, innJ e (2 * s + 1 + 1) c = c.o / e := fun c => by unfold innJ; rw [if_pos (by omega)]
  have hvv : viaJ a b (2 * s + 1 + 1) = a := by unfold viaJ; rw [if_pos (by omega)]
  rw [hvv, ho] at key
  rcases hr with ⟨rfl, hn⟩ | ⟨k, c, rfl, hcc, hne, hv, hx⟩
  · cases hch : chainJ cs e a b x0 (2 * s + 2) with
    | none => rw [atI_none hch]
    | some k =>
      obtain ⟨hne, c, h1, h2, h3⟩ := (key k).1 hch
      rw [hi] at h3
      exact absurd h3 (hn k c h1 (by omega) h2)
  · rw [atI_some ((key k).2 ⟨by omega, c, hcc, hv, by rw [hi]; exact hx⟩)]
end
theorem move_neg {o e m : Int} {xs : List Cl} {i q : Int} (h : ¬ (CallsOk o e m xs ∧ e ≤ m)) : moveL o e m xs i q = ([], false) := by unfold moveL; rw [if_neg h]
theorem move_busy {o e m : Int} {xs : List Cl} {i q : Int} (h : CallsOk o e m xs) (he : e ≤ m) (hf : ¬ LinesFree o e xs i q) : moveL o e m xs i q = (xs, false) := by unfold moveL; rw [if_pos ⟨h, he⟩, if_neg hf]
theorem move_free {o e m : Int} {xs : List Cl} {i q v : Int} (h : CallsOk o e m xs) (he : e ≤ m) (hf : LinesFree o e xs i q) (hv : (freeL o e m xs i q)[0]? = some v) : moveL o e m xs i q = (xs ++ [⟨i, q, v⟩], true) := by
  unfold moveL; rw [if_pos ⟨h, he⟩, if_pos hf]
  cases hl : freeL o e m xs i q with
  | nil => rw [hl] at hv; cases hv
  | cons x r => rw [hl] at hv; simp at hv; subst hv; rfl
theorem move_chain {o e m : Int} {xs : List Cl} {i q : Int} (h : CallsOk o e m xs) (he : e ≤ m) (hf : LinesFree o e xs i q) (hv : freeL o e m xs i q = []) {t : Nat} (ht : chainJ xs e (moveA e m xs i) (moveB e m xs q) (q / e) t = none) :
    moveL o e m xs i q = (flips xs e (moveA e m xs i) (moveB e m xs q) (q / e) t ++ [⟨i, q, moveA e m xs i⟩], true) := by
  unfold moveL; rw [if_pos ⟨h, he⟩, if_pos hf, hv]
  show (movedL e m xs i q ++ _, true) = _
  have hch := chn_of h he hf hv
  have : movedL e m xs i q = flips xs e (moveA e m xs i) (moveB e m xs q) (q / e) t := by
    unfold movedL
    by_cases hle : t ≤ xs.length
    · exact flips_end hch ht hle
    · exact (flips_end hch (chain_ends hch) (by omega)).symm
  rw [this]
theorem move_len (o e m : Int) (xs : List Cl) (i q : Int) : ∀ (h : xs.length ≤ 1048576), (moveL o e m xs i q).1.length ≤ 1048576 := fun h => by
  by_cases h1 : CallsOk o e m xs ∧ e ≤ m
  · by_cases h2 : LinesFree o e xs i q
    · obtain ⟨ys, v, he, _, hl, _⟩ := moveL_ok h1.1 h1.2 h2
      have := callsOk_len h1.1
      rw [he]; simp; omega
    · rw [move_busy h1.1 h1.2 h2]; exact h
  · rw [move_neg h1]; simp
end Go.Proofs.Ytcickfahpcmcdaa
