/- What the functions of chapter 5 answer, for tables of any form: the plain words of the contracts. No condition. -/
import Derived.Test.Ythfjlellaojdmaa5m
import Derived.Test.Ythfjlellaojdmaa5f
import Derived.Test.Ythfjlellaojdmaa5b
namespace Go.Proofs.Ythfjlellaojdmaa
set_option linter.unusedSimpArgs false
set_option linter.unusedVariables false
open Classical in
noncomputable def lineL (t : List (List Int)) : Int := if TrafOk t then mostF t.length (fOf t) else -1
open Classical in
noncomputable def allL (t : List (List Int)) : Int := if TrafOk t then allS t.length (fOf t) else -1
open Classical in
noncomputable def leftL (t fr : List (List Int)) : List (List Int) := if TrafOk t then tabF t.length (leftF (fOf t) fr) else []
open Classical in
noncomputable def fillL (t : List (List Int)) : List (List Int) := if TrafOk t then tabF t.length (fillF t.length (fOf t)) else []
open Classical in
/-- How many slots the greedy frame has. -/
noncomputable def gE (n : Nat) (f : Nat → Nat → Int) : Nat := if h : ∃ s, GEnd n f s then Classical.choose h else 0
theorem gE_is {n : Nat} {f : Nat → Nat → Int} {s : Nat} (h : GEnd n f s) : gE n f = s := by
  have he : ∃ s, GEnd n f s := ⟨s, h⟩
  unfold gE
  rw [dif_pos he]
  exact GEnd.uniq (Classical.choose_spec he) h
open Classical in
noncomputable def greedyL (t : List (List Int)) : List (List Int) := if TrafOk t then gFr t.length (fOf t) (gE t.length (fOf t)) else []
open Classical in
noncomputable def bestL (t : List (List Int)) : List (List Int) := if TrafOk t then bFr t.length (fOf t) (mostF t.length (fOf t)).toNat else []
def FrOk (t fr : List (List Int)) : Prop := TrafOk t ∧ FrameOkL t.length (fOf t) fr
theorem leftL_yes {t fr : List (List Int)} (h : TrafOk t) : leftL t fr = tabF t.length (leftF (fOf t) fr) := if_pos h
theorem leftL_no {t fr : List (List Int)} (h : ¬ TrafOk t) : leftL t fr = [] := if_neg h
theorem fillL_yes {t : List (List Int)} (h : TrafOk t) : fillL t = tabF t.length (fillF t.length (fOf t)) := if_pos h
theorem fillL_no {t : List (List Int)} (h : ¬ TrafOk t) : fillL t = [] := if_neg h
theorem greedyL_yes {t : List (List Int)} (h : TrafOk t) {s : Nat} (hs : GEnd t.length (fOf t) s) : greedyL t = gFr t.length (fOf t) s := by unfold greedyL; rw [if_pos h, gE_is hs]
theorem greedyL_no {t : List (List Int)} (h : ¬ TrafOk t) : greedyL t = [] := if_neg h
theorem bestL_yes {t : List (List Int)} (h : TrafOk t) : bestL t = bFr t.length (fOf t) (mostF t.length (fOf t)).toNat := if_pos h
theorem bestL_no {t : List (List Int)} (h : ¬ TrafOk t) : bestL t = [] := if_neg h
theorem lineL_yes {t : List (List Int)} (h : TrafOk t) : lineL t = mostF t.length (fOf t) := if_pos h
theorem lineL_no {t : List (List Int)} (h : ¬ TrafOk t) : lineL t = -1 := if_neg h
theorem allL_yes {t : List (List Int)} (h : TrafOk t) : allL t = allS t.length (fOf t) := if_pos h
theorem allL_no {t : List (List Int)} (h : ¬ TrafOk t) : allL t = -1 := if_neg h
theorem TrafOk.six {t : List (List Int)} (h : TrafOk t) : t.length ≤ 6 := h.1
theorem TrafOk.f {t : List (List Int)} (h : TrafOk t) : ∀ i j, i < t.length → j < t.length → 0 ≤ fOf t i j ∧ fOf t i j ≤ 6 := fun i j _ _ => h.bd i j
theorem TrafOk.bd6 {t : List (List Int)} (h : TrafOk t) : Bd t.length (fOf t) 0 6 := fun i j _ _ => h.bd i j
end Go.Proofs.Ythfjlellaojdmaa
