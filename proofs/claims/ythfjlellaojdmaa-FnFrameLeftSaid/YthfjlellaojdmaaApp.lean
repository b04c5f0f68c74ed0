/- append onto a slice of the call's own, each element of one cell, as a step of a region that draws its order. No condition. -/
import Derived.Test.YthfjlellaojdmaaMem2
import Derived.Deep.RegionLaw
namespace Go.Proofs.Ythfjlellaojdmaa
open Go.RowKit
set_option linter.unusedSimpArgs false
set_option linter.unusedVariables false
section
variable {P : Program} (w : World)
theorem step_appLN {α : Type} {emb : α → Value} {ops : Array Oper} {o : Oper} {a : Act} {K : Act → World → Prop} {Q : Exit → Act → World → Prop} {E : Prop} (hgd : o.guard = none) (s x : Operand) (t : TypeId)
    (ho : o.op = .call { callee := .builtin .append, args := #[s, x], argTypes := #[t, t] })
    (base : Nat) (e : TypeId) (z : Value) (bytes : Nat) (ht : P.underlying t = some (.slice e)) (hinfo : (P.info? e).map (fun i => (i.zero, i.size, i.bytes)) = some (some z, 1, bytes)) (hzs : z.cells.size = 1)
    (A : Option Addr) (n c : Nat) (ys : List α) (hs : a.eval s = .slice A n c) (hown : OwnL emb w base e A n c ys)
    (A' : Option Addr) (m c' : Nat) (zs : List α) (hx : a.eval x = .slice A' m c') (hr : RdL emb w A' m zs) (h1 : ∀ y, (emb y).oneCell' = true)
    (N : Nat) (hN : n + m = N) (ws : List α) (hws : ys ++ zs = ws) (h63 : n + m ≤ maxLen) (hbytes : (n + m) * bytes ≤ 140737488355328) (hbase : base ≤ w.heap.size)
    (h : ∀ A1 c1 w1, OwnL emb w1 base e A1 N c1 ws → w.grownBy w1 (blk A) → (blk A1 = blk A ∨ blk A1 = some w.heap.size) → K (a.put o.dst (.slice A1 N c1)) w1) :
    if Region.wanted o (yielded ops a.tmps) = true then Oper.wp P o a w K Q else E := by
  subst hN hws
  have hw : Region.wanted o (yielded ops a.tmps) = true := by simp [Region.wanted, hgd]
  rw [if_pos hw]
  refine wp_app w s x t ho base e z 1 bytes ht hinfo hzs (by omega) A n c _ hs hown A' m c' (zs.map emb) hx (by rw [List.length_map, hr.1]; omega) ?_ ?_ h63 hbytes hbase ?_
  · intro hm
    obtain ⟨b, off, hA, hc⟩ := hr.2 hm
    refine ⟨b, off, hA, fun j u hu => ?_⟩
    rw [List.getElem?_map] at hu
    obtain ⟨y, hy, rfl⟩ := Option.map_eq_some_iff.1 hu
    exact hc j y hy
  · intro u hu
    obtain ⟨y, _, rfl⟩ := List.mem_map.1 hu
    exact h1 y
  · intro A1 c1 w1 h2 h3 h4
    refine h A1 c1 w1 ?_ h3 h4
    unfold OwnL; rw [List.map_append]; exact h2
end
end Go.Proofs.Ythfjlellaojdmaa
