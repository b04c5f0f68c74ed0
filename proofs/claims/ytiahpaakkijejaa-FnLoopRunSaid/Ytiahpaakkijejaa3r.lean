/- The plain laws behind FnLoopRun. No condition. -/
import Derived.Test.Ytiahpaakkijejaa3g2
import Derived.Test.Ytiahpaakkijejaa3q
namespace Go.Proofs.Ytiahpaakkijejaa
open Go.RowKit
set_option linter.unusedSimpArgs false
set_option linter.unusedVariables false
theorem fS_flip {set : List Bool} {k : Nat} {v : Bool} (hk : set[k]? = some v) : fS (set.set k (!v)) = flipF (fS set) k := by
  have hk' := (List.getElem?_eq_some_iff.1 hk).1
  funext x
  by_cases hx : x = k
  · subst hx
    rw [flip_same, fS_at hk]
    exact fS_at (List.getElem?_set_self hk')
  · rw [flip_other _ hx]
    unfold fS
    rw [List.getD_eq_getElem?_getD, List.getD_eq_getElem?_getD, List.getElem?_set_ne (fun e => hx e.symm)]
theorem loop_facts {l : Int} {set : List Bool} {ys : List Int} (h : loopRunL l set = ys) (h0 : ys.length ≠ 0) :
    l = ys.length ∧ PermOk ys ∧ ys.length ≤ 8 ∧ ∀ (k : Nat) v, set[k]? = some v → loopRunL l (set.set k (!v)) ≠ ys := by
  by_cases hl : lManyI l = (set.length : Int)
  · rw [lr_yes hl] at h
    subst h
    obtain ⟨d, hd, hlv, hm, hd2⟩ : ∃ d, l = ((2 ^ (d + 1) : Nat) : Int) ∧ lvOf l = d ∧ manyD d = set.length ∧ d ≤ 2 := by
      rcases many_cases l with h1 | ⟨rfl, h1⟩ | ⟨rfl, h1⟩ | ⟨rfl, h1⟩
      · omega
      · exact ⟨0, rfl, rfl, by show 1 = _; omega, by omega⟩
      · exact ⟨1, rfl, rfl, by show 6 = _; omega, by omega⟩
      · exact ⟨2, rfl, rfl, by show 20 = _; omega, by omega⟩
    rw [hlv]
    have hlen := runL_len d set
    refine ⟨by rw [hlen]; exact hd, perm_map (fun i hi => runF_lt d _ i hi) (fun i j hi hj he => runF_inj d _ i j hi hj he), ?_, ?_⟩
    · rw [hlen]
      rcases (by omega : d = 0 ∨ d = 1 ∨ d = 2) with rfl | rfl | rfl <;> decide
    · intro k v hk he
      have hk' := (List.getElem?_eq_some_iff.1 hk).1
      rw [lr_yes (by rw [List.length_set]; exact hl), hlv] at he
      obtain ⟨i, hi, hne⟩ := runF_flip d (fS set) k (by omega)
      have e1 := runL_at (d := d) (set := set.set k (!v)) hi
      rw [he, runL_at hi, fS_flip hk] at e1
      injection e1 with e1
      omega
  · rw [lr_no hl] at h; subst h; simp at h0
end Go.Proofs.Ytiahpaakkijejaa
