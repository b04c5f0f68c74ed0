/- copy into a row of the call's own, each element of sz cells, and of one cell. No condition. -/
import Derived.Test.YthfjlellaojdmaaMem2
import Derived.Laws.CopyOwn
namespace Go.Proofs.Ythfjlellaojdmaa
open Go.RowKit
set_option linter.unusedSimpArgs false
set_option linter.unusedVariables false
theorem addr_add (b off j : Nat) : (⟨b, off, none⟩ : Addr).add j = ⟨b, off + j, none⟩ := by
  unfold Addr.add
  split
  · simp_all
  · rfl
section
variable {P : Program} {α : Type} {sz : Nat} {emb : α → List Value}
theorem run_copyM (w : World) (dT sT ty e : TypeId) (i : TypeInfo) (hu : P.underlying dT = some (.slice e)) (hi : P.info? e = some i) (hs : i.size = sz) (hlen : ∀ y, (emb y).length = sz) (h1 : ∀ y, ∀ u ∈ emb y, u.oneCell' = true)
    (B g n c c' : Nat) (ys zs : List α) (hown : OwnM sz emb w B e (some ⟨g, 0, none⟩) n c ys) (A' : Option Addr) (hr : RdM sz emb w A' n zs) (hsz : 0 < sz) :
    ∃ w1, (Builtin.copy_ #[dT, sT] ty #[.slice (some ⟨g, 0, none⟩) n c, .slice A' n c']).run P w = .ok (goInt n) w1 ∧ OwnM sz emb w1 B e (some ⟨g, 0, none⟩) n c zs ∧ w.grownBy w1 (some g) := by
  rcases Nat.eq_zero_or_pos n with h0 | h0
  · subst h0
    have hz : zs = [] := List.eq_nil_of_length_eq_zero hr.1
    have hy : ys = [] := List.eq_nil_of_length_eq_zero (OwnM.len hlen hsz hown).out
    subst hz hy
    have hl : ∀ (x : Addr), (loadCells x 0).run P w = .ok #[] w := fun x => by simpa using run_loadCells_list (P := P) w x [] (by simp)
    refine ⟨w, ?_, hown, World.grownBy.refl _ _⟩
    cases A' <;> simp [Builtin.copy_, run_underlying hu, Builtin.lenOf, Builtin.firstCells, sizeOf, typeInfo, hi, storeCells, hl]
  · obtain ⟨b, off, rfl, hc⟩ := hr.2 h0
    rcases hown.2 with ⟨h', _⟩ | ⟨g', cap, cur, h', hB, hg, hnc, hcm, hcs, ht⟩
    · cases h'
    · simp only [Value.slice.injEq, Option.some.injEq, Addr.mk.injEq, true_and, and_true] at h'
      obtain ⟨rfl, rfl⟩ := h'
      have hcl : (zs.flatMap emb).length = n * sz := by rw [flat_len hlen, hr.1]
      have hcells : ∀ j u, (zs.flatMap emb)[j]? = some u → w.cell? ((⟨b, off, none⟩ : Addr).add j) = some u := by
        intro j u hu'
        have hj : j < n * sz := by rw [← hcl]; exact (List.getElem?_eq_some_iff.1 hu').1
        have hd : j / sz < n := Nat.div_lt_of_lt_mul (by rw [Nat.mul_comm]; exact hj)
        have hm' : j % sz < sz := Nat.mod_lt _ hsz
        have ej : j = (j / sz) * sz + j % sz := by rw [Nat.mul_comm]; exact (Nat.div_add_mod j sz).symm
        have hdl : j / sz < zs.length := by rw [hr.1]; exact hd
        have hz' : zs[j / sz]? = some zs[j / sz] := List.getElem?_eq_getElem hdl
        have hu2 := hu'
        rw [ej, flat_at hlen hz' hm'] at hu2
        have := hc (j / sz) _ hz' (j % sz) u hu2
        rw [Nat.add_assoc, ← ej] at this
        rw [addr_add]; exact this
      have hfit : (zs.flatMap emb).length ≤ cur.size := by rw [hcl, hcs]; exact Nat.mul_le_mul_right _ hnc
      have hf := run_firstCells_some (P := P) (w := w) i.size n ⟨b, off, none⟩ n c' (zs.flatMap emb) (by rw [hs]; exact hcl) hcells
      have hst := run_storeCells_at P g 0 e (zs.flatMap emb) 0 cur w hg (by simpa using hfit) (fun u hu' => by obtain ⟨y, _, hy⟩ := List.mem_flatMap.1 hu'; exact h1 y u hy)
      refine ⟨w.setRow g (zs.flatMap emb ++ cur.toList.drop (zs.flatMap emb).length).toArray, ?_, ⟨hcl, .inr ⟨g, c, _, rfl, hB, setRow_heap w g cur _ e _ hg, hnc, hcm, ?_, ?_⟩⟩, ⟨rfl, rfl, rfl, by simp, fun k _ hk => setRow_other w g k _ (fun he => hk (by rw [he]))⟩⟩
      · simp [Builtin.copy_, run_underlying hu, Builtin.lenOf, sizeOf, typeInfo, hi, hf, hst]
      · simp only [List.size_toArray, List.length_append, List.length_drop, Array.length_toList]; omega
      · simp only [List.toList_toArray]; rw [← hcl]; exact List.take_left
theorem wpList_copyM {w : World} {ops : Array Oper} {rest : List Oper} {o : Oper} {a : Act} {Q : Exit → Act → World → Prop} (hgd : o.guard = none) (d s : Operand) (dT sT : TypeId)
    (ho : o.op = .call { callee := .builtin .copy, args := #[d, s], argTypes := #[dT, sT] }) (e : TypeId) (z : Value) (bytes : Nat) (hu : P.underlying dT = some (.slice e)) (hinfo : (P.info? e).map (fun i => (i.zero, i.size, i.bytes)) = some (some z, sz, bytes))
    (hlen : ∀ y, (emb y).length = sz) (h1 : ∀ y, ∀ u ∈ emb y, u.oneCell' = true) (hsz : 0 < sz)
    (B g n c c' : Nat) (ys zs : List α) (hd : a.eval d = .slice (some ⟨g, 0, none⟩) n c) (hown : OwnM sz emb w B e (some ⟨g, 0, none⟩) n c ys) (A' : Option Addr) (hs : a.eval s = .slice A' n c') (hr : RdM sz emb w A' n zs)
    (h : ∀ w1, OwnM sz emb w1 B e (some ⟨g, 0, none⟩) n c zs → w.grownBy w1 (some g) → wpList P ops Q rest (a.put o.dst (goInt n)) w1) : wpList P ops Q (o :: rest) a w := by
  refine wpList_plain hgd fun K hK => ?_
  obtain ⟨i, hi, hz, hsize, hby⟩ := info_parts hinfo
  obtain ⟨w1, hrun, h2, h3⟩ := run_copyM (P := P) w dT sT o.type e i hu hi hsize hlen h1 B g n c c' ys zs hown A' hr hsz
  unfold Oper.wp
  simp [execOp, ho, resolve, invoke, builtin, hd, hs, hrun, Result.andThen]
  exact hK _ _ (h w1 h2 h3)
end
section
variable {P : Program} {α : Type} {emb : α → Value}
theorem wpList_copyL {w : World} {ops : Array Oper} {rest : List Oper} {o : Oper} {a : Act} {Q : Exit → Act → World → Prop} (hgd : o.guard = none) (d s : Operand) (dT sT : TypeId)
    (ho : o.op = .call { callee := .builtin .copy, args := #[d, s], argTypes := #[dT, sT] }) (e : TypeId) (z : Value) (bytes : Nat) (hu : P.underlying dT = some (.slice e)) (hinfo : (P.info? e).map (fun i => (i.zero, i.size, i.bytes)) = some (some z, 1, bytes))
    (h1 : ∀ y, (emb y).oneCell' = true)
    (B g n c c' : Nat) (ys zs : List α) (hd : a.eval d = .slice (some ⟨g, 0, none⟩) n c) (hown : OwnL emb w B e (some ⟨g, 0, none⟩) n c ys) (A' : Option Addr) (hs : a.eval s = .slice A' n c') (hr : RdL emb w A' n zs)
    (h : ∀ w1, OwnL emb w1 B e (some ⟨g, 0, none⟩) n c zs → w.grownBy w1 (some g) → wpList P ops Q rest (a.put o.dst (goInt n)) w1) : wpList P ops Q (o :: rest) a w := by
  have fm : ∀ l : List α, l.flatMap (fun y => [emb y]) = l.map emb := fun l => by induction l with | nil => rfl | cons x l ih => simp [List.flatMap_cons, ih]
  refine wpList_copyM (sz := 1) (emb := fun y => [emb y]) hgd d s dT sT ho e z bytes hu hinfo (fun _ => rfl) (fun y u hu => ?_) (by omega) B g n c c' ys zs hd ?_ A' hs ?_ ?_
  · simp at hu; subst hu; exact h1 y
  · unfold OwnM; rw [fm]; simpa [OwnL] using hown
  · refine ⟨hr.1, fun hn => ?_⟩
    obtain ⟨b, off, hA, hc⟩ := hr.2 hn
    refine ⟨b, off, hA, fun k y hy j u hu => ?_⟩
    cases j with
    | zero => simp at hu; subst hu; simpa using hc k y hy
    | succ j => simp at hu
  · intro w1 h2 h3
    refine h w1 ?_ h3
    unfold OwnM at h2; rw [fm] at h2; simpa [OwnL] using h2
end
end Go.Proofs.Ythfjlellaojdmaa
