/- Memory words for tables, second part: a row of the table was written as a whole; how many numbers a table has; marks in a table. No condition. -/
import Derived.Test.YthfjlellaojdmaaTab
import Derived.Test.YthfjlellaojdmaaMark
namespace Go.Proofs.Ythfjlellaojdmaa
open Go.RowKit
set_option linter.unusedSimpArgs false
set_option linter.unusedVariables false
/-- How many numbers a table has. -/
def flat (rows : List (List Int)) : Nat := (rows.map List.length).sum
theorem flat_snoc (xs : List (List Int)) (r : List Int) : flat (xs ++ [r]) = flat xs + r.length := by simp [flat]
theorem flat_take {rows : List (List Int)} {k : Nat} {r : List Int} (h : rows[k]? = some r) : flat (rows.take (k + 1)) = flat (rows.take k) + r.length := by rw [take_snoc h, flat_snoc]
theorem flat_le (rows : List (List Int)) (k : Nat) : flat (rows.take k) ≤ flat rows := by
  have e : flat (rows.take k ++ rows.drop k) = flat (rows.take k) + flat (rows.drop k) := by unfold flat; rw [List.map_append, List.sum_append]
  rw [List.take_append_drop] at e; omega
theorem flatT_at {rows : List (List Int)} {k : Nat} {r : List Int} (h : rows[k]? = some r) : flat (rows.take k) + r.length ≤ flat rows := by
  rw [← flat_take h]; exact flat_le rows (k + 1)
theorem flat_all {rows : List (List Int)} {k : Nat} (h : rows.length ≤ k) : flat (rows.take k) = flat rows := by rw [List.take_of_length_le h]
/-- A table that is small. -/
def SmT (rows : List (List Int)) : Prop := rows.length ≤ 1048576 ∧ flat rows ≤ 1048576
theorem SmT.row {rows : List (List Int)} (h : SmT rows) {k : Nat} {r : List Int} (hr : rows[k]? = some r) : r.length ≤ 1048576 := by have := flatT_at hr; have := h.2; omega
theorem SmT.nil : SmT [] := ⟨by simp, by simp [flat]⟩
section
variable {w w' : World} {B F : Nat} {A : Option Addr} {n c : Nat} {rows : List (List Int)}
/-- A row of the table was written. -/
theorem OwnT.back {g k : Nat} {Ak : Option Addr} {nk ck : Nat} {r' : List Int} (h : OwnT w B F (some ⟨g, 0, none⟩) n c rows) (hk : k < n) (hc : w.cell? ⟨g, k, none⟩ = some (.slice Ak nk ck)) (hG : w.grownBy w' (blk Ak)) (hr : OwnL iv w' B 3 Ak nk ck r') :
    OwnT w' B F (some ⟨g, 0, none⟩) n c (rows.set k r') := by
  obtain ⟨hs, h1⟩ := h
  obtain ⟨g', z, hA, hB, hg, HY, hc', hf⟩ := h1.own.at hk
  injection hA with hA; injection hA with hA; subst hA
  rw [hc] at hc'
  injection hc' with hc'
  have hz : z = ⟨Ak, nk, ck⟩ := by cases z; simp [hdv] at hc'; simp [hc']
  subst hz
  have hl : k < rows.length := by rw [h1.len]; exact hk
  have hkk := h1.row k _ rows[k] HY.out (List.getElem?_eq_getElem hl)
  refine ⟨hs, h1.own.grown hG (fun b hb hb' => (hkk.2 b hb).1 hb'), by simp [h1.len], h1.hi, fun l y' r'' hy' hr'' => ?_, h1.sep⟩
  by_cases hl' : k = l
  · subst hl'
    rw [HY.out] at hy'; injection hy' with hy'; subst hy'
    rw [List.getElem?_set, if_pos rfl, if_pos hl] at hr''
    injection hr'' with hr''; subst hr''
    exact ⟨hr, hkk.2⟩
  · rw [List.getElem?_set, if_neg hl'] at hr''
    exact ⟨(h1.row l y' r'' hy' hr'').1.grown hG (fun b hb hb' => h1.sep k l _ y' b hl' HY.out hy' hb hb'), (h1.row l y' r'' hy' hr'').2⟩
theorem Kb.below_of {S : Nat → Prop} {B0 : Nat} {w0 : World} (h : Below B0 w0 w) (hk : Kb S w w') (hB : B0 ≤ w.heap.size) (hS : ∀ k, k < B0 → ¬ S k) : Below B0 w0 w' :=
  ⟨hk.os.trans h.os, hk.tape.trans h.tape, hk.output.trans h.output, Nat.le_trans h.size hk.size, fun k hk' => (hk.block k (by omega) (hS k hk')).trans (h.block k hk')⟩
end
def SameLen (xs zs : List (List Int)) : Prop := zs.map List.length = xs.map List.length
theorem SameLen.refl (xs : List (List Int)) : SameLen xs xs := rfl
theorem SameLen.len {xs zs : List (List Int)} (h : SameLen xs zs) : zs.length = xs.length := by have := congrArg List.length h; simpa using this
theorem SameLen.flat {xs zs : List (List Int)} (h : SameLen xs zs) (k : Nat) : flat (zs.take k) = flat (xs.take k) := by
  unfold SameLen at h; unfold Proofs.Ythfjlellaojdmaa.flat; rw [List.map_take, List.map_take, h]
theorem SameLen.flatAll {xs zs : List (List Int)} (h : SameLen xs zs) : Proofs.Ythfjlellaojdmaa.flat zs = Proofs.Ythfjlellaojdmaa.flat xs := by unfold Proofs.Ythfjlellaojdmaa.flat; rw [h]
theorem SameLen.at {xs zs : List (List Int)} (h : SameLen xs zs) {k : Nat} {r s : List Int} (hr : xs[k]? = some r) (hs : zs[k]? = some s) : s.length = r.length := by
  have e : (zs.map List.length)[k]? = (xs.map List.length)[k]? := by rw [h]
  rw [List.getElem?_map, List.getElem?_map, hr, hs] at e
  simpa using e
theorem SameLen.set {xs zs : List (List Int)} (h : SameLen xs zs) {k : Nat} {r s : List Int} (hs : zs[k]? = some s) (hr : r.length = s.length) : SameLen xs (zs.set k r) := by
  unfold SameLen at *
  rw [← h, List.map_set]
  apply List.ext_getElem?
  intro i
  rw [List.getElem?_set]
  split
  · subst_vars
    split
    · rw [List.getElem?_map, hs, hr]; rfl
    · rename_i h2
      rw [List.getElem?_eq_none (by omega)]
  · rfl
end Go.Proofs.Ythfjlellaojdmaa
