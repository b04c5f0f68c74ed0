/- The helpers of the laws on tables: szIntSS (how large), toIntSS (a copy), eqIntSS (the same), markIntSS and heldIntSS (marks). Condition: tables of at most 1048576 numbers. -/
import Derived.Test.YthfjlellaojdmaaTab2
namespace Go.Proofs.Ythfjlellaojdmaa
open Go.RowKit
set_option linter.unusedSimpArgs false
set_option linter.unusedVariables false
theorem set_fillT {xs : List (List Int)} {x : List Int} {n k : Nat} (hl : xs.length = n) (hk : k < n) (h : xs[k]? = some x) :
    (xs.take k ++ List.replicate (n - k) []).set k x = xs.take (k + 1) ++ List.replicate (n - (k + 1)) [] := set_fill hl hk h
theorem quiet_bel {P : Program} {f : FuncId} {args : Array Value} {w : World} {v : Ending} (h : Calls P f args w fun e w' => e = v ∧ ∃ m, w' = w.drewN m) : Calls P f args w fun e w' => e = v ∧ Below w.heap.size w w' :=
  h.mono fun _ _ ⟨he, m, hm⟩ => ⟨he, by rw [hm]; exact below_drewN (Below.refl _ _) m⟩
theorem retB_bel {P : Program} {f : FuncId} {args : Array Value} {w : World} {p : Prop} (h : Calls P f args w (RetB p w)) : Calls P f args w (RetM p w) :=
  h.mono fun _ _ ⟨b, he, hb, m, hm⟩ => ⟨b, he, hb, by rw [hm]; exact below_drewN (Below.refl _ _) m⟩
theorem retB_is {P : Program} {f : FuncId} {args : Array Value} {w : World} {p : Prop} {b : Bool} (hb : b = true ↔ p) (h : Calls P f args w (RetB p w)) : Calls P f args w fun e w' => e = .returned (.bool b) ∧ ∃ m, w' = w.drewN m :=
  h.mono fun _ _ ⟨v, he, hv, m, hm⟩ => ⟨by rw [he]; exact ret_bool (Bool.eq_iff_iff.2 (hv.out.trans hb.symm)), m, hm⟩
end Go.Proofs.Ythfjlellaojdmaa
