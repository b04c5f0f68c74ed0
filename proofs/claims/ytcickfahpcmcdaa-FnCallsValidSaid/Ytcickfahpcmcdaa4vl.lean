/- Plain words behind FnCallsValid: the empty list, the tail, the first once more. No condition. -/
import Derived.Test.Ytcickfahpcmcdaa4m
namespace Go.Proofs.Ytcickfahpcmcdaa
set_option linter.unusedSimpArgs false
set_option linter.unusedVariables false
theorem calls_nil {o e m : Int} : CallsOk o e m [] ↔ ShapeOk o e m := ⟨fun h => h.1, fun h => ⟨h, by simp, by simp⟩⟩
theorem calls_tail {o e m : Int} {cs : List Cl} (h : CallsOk o e m cs) : CallsOk o e m (cs.drop 1) :=
  ⟨h.1, fun c hc => h.2.1 c (List.mem_of_mem_drop hc), h.2.2.sublist (List.drop_sublist 1 cs)⟩
theorem calls_twice {o e m : Int} {cs : List Cl} {c : Cl} (hc : cs[0]? = some c) : ¬ CallsOk o e m (cs ++ [c]) := fun h =>
  ((callsOk_snoc.1 h).2.2 c (List.mem_of_getElem? hc)).1 rfl
theorem calls_via {o e m v : Int} {cs : List Cl} (h : CallsOk o e m cs) : ((cs.filter fun c => decide (c.v = v)).length : Int) ≤ o := by
  obtain ⟨hs1, hs2, hs3, hs4, hs5, hs6⟩ := h.1
  have hp : ((cs.filter fun c => decide (c.v = v)).map fun c => c.i / e).Nodup := by
    unfold List.Nodup
    rw [List.pairwise_map]
    refine List.Pairwise.imp_of_mem ?_ (h.2.2.filter _)
    intro a b ha hb hc he
    have h1 := (List.mem_filter.1 ha).2
    have h2 := (List.mem_filter.1 hb).2
    have h3 := of_decide_eq_true h1
    have h4 := of_decide_eq_true h2
    exact (hc.2.2 (by rw [h3, h4])).1 he
  have := nodup_len_le (n := o.toNat) hp (fun x hx => by
    obtain ⟨c, hc, rfl⟩ := List.mem_map.1 hx
    obtain ⟨h5, h6⟩ := (h.2.1 c (List.mem_filter.1 hc).1).1
    have h7 : c.i / e < o := Int.ediv_lt_of_lt_mul (by omega) h6
    exact ⟨Int.ediv_nonneg h5 (by omega), by omega⟩)
  rw [List.length_map] at this
  omega
end Go.Proofs.Ytcickfahpcmcdaa
