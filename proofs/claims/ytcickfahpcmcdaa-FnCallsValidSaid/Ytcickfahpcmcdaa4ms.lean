/- CallMove of the reference. Condition: at most 1048576 calls. -/
import Derived.Test.Ytcickfahpcmcdaa4mr
namespace Go.Proofs.Ytcickfahpcmcdaa
open Go.RowKit
set_option linter.unusedSimpArgs false
set_option linter.unusedVariables false
/-- The first t places of the chain. -/
def chainL (cs : List Cl) (e a b x0 : Int) (t : Nat) : List Int := (List.range t).map (atI cs e a b x0)
theorem chainL_len (cs : List Cl) (e a b x0 : Int) (t : Nat) : (chainL cs e a b x0 t).length = t := by simp [chainL]
theorem chainL_succ (cs : List Cl) (e a b x0 : Int) (t : Nat) : chainL cs e a b x0 (t + 1) = chainL cs e a b x0 t ++ [atI cs e a b x0 t] := by simp [chainL, List.range_succ]
theorem chainL_at (cs : List Cl) (e a b x0 : Int) {t k : Nat} (h : k < t) : (chainL cs e a b x0 t)[k]? = some (atI cs e a b x0 k) := by simp [chainL, h]
section
variable {o e m a b x0 : Int} {cs : List Cl}
/-- What the inner loop has found among the first k. -/
def foundI (cs : List Cl) (e a b x0 : Int) (t k : Nat) : Int := match chainJ cs e a b x0 t with | some l => if l < k then (l : Int) else -1 | none => -1
theorem foundI_zero (t : Nat) : foundI cs e a b x0 t 0 = -1 := by unfold foundI; split <;> simp
theorem foundI_hit {t k : Nat} (h : chainJ cs e a b x0 t = some k) : foundI cs e a b x0 t (k + 1) = k := by unfold foundI; rw [h]; simp
theorem foundI_miss {t k : Nat} (h : chainJ cs e a b x0 t ≠ some k) : foundI cs e a b x0 t (k + 1) = foundI cs e a b x0 t k := by
  unfold foundI
  cases hc : chainJ cs e a b x0 t with
  | none => rfl
  | some l =>
    have : l ≠ k := fun e1 => h (by rw [hc, e1])
    simp only
    by_cases h1 : l < k
    · rw [if_pos h1, if_pos (by omega)]
    · rw [if_neg h1, if_neg (by omega)]
theorem foundI_all (h : Chn o e m a b x0 cs) {t k : Nat} (hk : cs.length ≤ k) : foundI cs e a b x0 t k = atI cs e a b x0 t := by
  unfold foundI atI
  cases hc : chainJ cs e a b x0 t with
  | none => rfl
  | some l =>
    obtain ⟨c, hcc, _⟩ := chain_at h hc
    have := (List.getElem?_eq_some_iff.1 hcc).1
    simp only
    rw [if_pos (by omega)]
theorem not_in_chain (h : Chn o e m a b x0 cs) {t k : Nat} (hc : chainJ cs e a b x0 t = some k) : (k : Int) ∉ chainL cs e a b x0 t := by
  intro hm
  obtain ⟨j, hj, he⟩ := List.mem_map.1 hm
  rw [List.mem_range] at hj
  cases hcj : chainJ cs e a b x0 j with
  | none => rw [chain_none h hcj (by omega)] at hc; cases hc
  | some l =>
    rw [atI_some hcj] at he
    have : l = k := by omega
    subst this
    have := chain_inj h hcj hc
    omega
theorem hit_iff (h : Chn o e m a b x0 cs) {t k : Nat} {x : Int} {c : Cl} (hn : nodeJ cs e a b x0 t = some x) (hc : cs[k]? = some c) :
    chainJ cs e a b x0 t = some k ↔ innJ e t c = x ∧ c.v = viaJ a b t := by
  rw [chain_iff h]
  constructor
  · rintro ⟨y, d, h1, h2, h3, h4⟩
    rw [hc] at h2; injection h2 with h2; subst h2
    rw [hn] at h1; injection h1 with h1; subst h1
    exact ⟨h4, h3⟩
  · rintro ⟨h1, h2⟩
    exact ⟨x, c, hn, hc, h2, h1⟩
theorem node_next (h : Chn o e m a b x0 cs) {t l : Nat} {d : Cl} (hc : chainJ cs e a b x0 t = some l) (hd : cs[l]? = some d) : nodeJ cs e a b x0 (t + 1) = some (outJ e t d) := (node_succ_iff h).2 ⟨l, d, hc, hd, rfl⟩
theorem chain_before (h : Chn o e m a b x0 cs) {t : Nat} {x : Int} (hn : nodeJ cs e a b x0 t = some x) {j : Nat} (hj : j < t) : ∃ l, chainJ cs e a b x0 j = some l := by
  cases hc : chainJ cs e a b x0 j with
  | some l => exact ⟨l, rfl⟩
  | none =>
    obtain ⟨s, rfl⟩ : ∃ s, t = s + 1 := ⟨t - 1, by omega⟩
    obtain ⟨l, d, hl, _⟩ := (node_succ_iff h).1 hn
    rw [chain_none h hc (by omega)] at hl; cases hl
theorem flips_via (h : Chn o e m a b x0 cs) (h1 : 0 ≤ a ∧ a ≤ 4) (h2 : 0 ≤ b ∧ b ≤ 4) (t : Nat) : 0 ≤ viaJ a b t ∧ viaJ a b t ≤ 4 := by unfold viaJ; split <;> assumption
end
theorem quiet_belowC {P : Program} {f : FuncId} {args : Array Value} {w : World} {v : Ending} (h : Calls P f args w fun e w' => e = v ∧ ∃ m, w' = w.drewN m) : Calls P f args w fun e w' => e = v ∧ Below w.heap.size w w' :=
  h.mono fun _ _ ⟨he, m, hm⟩ => ⟨he, by rw [hm]; exact below_drewN (Below.refl _ _) m⟩
end Go.Proofs.Ytcickfahpcmcdaa
