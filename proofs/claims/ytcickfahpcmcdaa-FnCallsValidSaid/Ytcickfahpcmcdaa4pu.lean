/- copyCalls; CallPut of the program and of the reference: the calls with a further one through the first free middle switch. Condition: at most 1048576 calls. -/
import Derived.Test.Ytcickfahpcmcdaa4mh
import Derived.Laws.CopyOwn
namespace Go.Proofs.Ytcickfahpcmcdaa
open Go.RowKit
set_option linter.unusedSimpArgs false
set_option linter.unusedVariables false
theorem addr_add (b off j : Nat) : (⟨b, off, none⟩ : Addr).add j = ⟨b, off + j, none⟩ := by
  unfold Addr.add
  split
  · simp_all
  · rfl
section
variable {P : Program} {α : Type} {sz : Nat} {emb : α → List Value}
theorem run_copyM (w : World) (dT sT ty e : TypeId) (i : TypeInfo) (hu : P.underlying dT = some (.slice e)) (hi : P.info? e = some i) (hs : i.size = sz) (hlen : ∀ y, (emb y).length = sz) (h1 : ∀ y, ∀ u ∈ emb y, u.oneCell' = true)
    (B g n c c' : Nat) (ys zs : List α) (hown : OwnM sz emb w B e (some ⟨g, 0, none⟩) n c ys) (A' : Option Addr) (hr : RdM sz emb w A' n zs) (hsz : 0 < sz) :
    ∃ w1, (Builtin.copy_ #[dT, sT] ty #[.slice (some ⟨g, 0, none⟩) n c, .slice A' n c']).run P w = .ok (goInt n) w1 ∧ OwnM sz emb w1 B e (some ⟨g, 0, none⟩) n c zs ∧ w.grownBy w1 (some g) := by
  rcases Nat.eq_zero_or_pos n with h0 | h0
  · subst h0
    have hz : zs = [] := List.eq_nil_of_length_eq_zero hr.1
    have hy : ys = [] := List.eq_nil_of_length_eq_zero (OwnM.len hlen hsz hown).out
    subst hz hy
    have hl : ∀ (x : Addr), (loadCells x 0).run P w = .ok #[] w := fun x => by simpa using run_loadCells_list (P := P) w x [] (by simp)
    refine ⟨w, ?_, hown, World.grownBy.refl _ _⟩
    cases A' <;> simp [Builtin.copy_, run_underlying hu, Builtin.lenOf, Builtin.firstCells, sizeOf, typeInfo, hi, storeCells, hl]
  · obtain ⟨b, off, rfl, hc⟩ := hr.2 h0
    rcases hown.2 with ⟨h', _⟩ | ⟨g', cap, cur, h', hB, hg, hnc, hcm, hcs, ht⟩
    · cases h'
    · simp only [Value.slice.injEq, Option.some.injEq, Addr.mk.injEq, true_and, and_true] at h'
      obtain ⟨rfl, rfl⟩ := h'
      have hcl : (zs.flatMap emb).length = n * sz := by rw [flat_len hlen, hr.1]
      have hcells : ∀ j u, (zs.flatMap emb)[j]? = some u → w.cell? ((⟨b, off, none⟩ : Addr).add j) = some u := by
        intro j u hu'
        have hj : j < n * sz := by rw [← hcl]; exact (List.getElem?_eq_some_iff.1 hu').1
        have hd : j / sz < n := Nat.div_lt_of_lt_mul (by rw [Nat.mul_comm]; exact hj)
        have hm' : j % sz < sz := Nat.mod_lt _ hsz
        have ej : j = (j / sz) * sz + j % sz := by rw [Nat.mul_comm]; exact (Nat.div_add_mod j sz).symm
        have hdl : j / sz < zs.length := by rw [hr.1]; exact hd
        have hz' : zs[j / sz]? = some zs[j / sz] := List.getElem?_eq_getElem hdl
        have hu2 := hu'
        rw [ej, flat_at hlen hz' hm'] at hu2
        have := hc (j / sz) _ hz' (j % sz) u hu2
        rw [Nat.add_assoc, ← ej] at this
        rw [addr_add]; exact this
      have hfit : (zs.flatMap emb).length ≤ cur.size := by rw [hcl, hcs]; exact Nat.mul_le_mul_right _ hnc
      have hf := run_firstCells_some (P := P) (w := w) i.size n ⟨b, off, none⟩ n c' (zs.flatMap emb) (by rw [hs]; exact hcl) hcells
      have hst := run_storeCells_at P g 0 e (zs.flatMap emb) 0 cur w hg (by simpa using hfit) (fun u hu' => by obtain ⟨y, _, hy⟩ := List.mem_flatMap.1 hu'; exact h1 y u hy)
      refine ⟨w.setRow g (zs.flatMap emb ++ cur.toList.drop (zs.flatMap emb).length).toArray, ?_, ⟨hcl, .inr ⟨g, c, _, rfl, hB, setRow_heap w g cur _ e _ hg, hnc, hcm, ?_, ?_⟩⟩, ⟨rfl, rfl, rfl, by simp, fun k _ hk => setRow_other w g k _ (fun he => hk (by rw [he]))⟩⟩
      · simp [Builtin.copy_, run_underlying hu, Builtin.lenOf, sizeOf, typeInfo, hi, hf, hst]
      · simp only [List.size_toArray, List.length_append, List.length_drop, Array.length_toList]; omega
      · simp only [List.toList_toArray]; rw [← hcl]; exact List.take_left
theorem wpList_copyM {w : World} {ops : Array Oper} {rest : List Oper} {o : Oper} {a : Act} {Q : Exit → Act → World → Prop} (hgd : o.guard = none) (d s : Operand) (dT sT : TypeId)
    (ho : o.op = .call { callee := .builtin .copy, args := #[d, s], argTypes := #[dT, sT] }) (e : TypeId) (z : Value) (bytes : Nat) (hu : P.underlying dT = some (.slice e)) (hinfo : (P.info? e).map (fun i => (i.zero, i.size, i.bytes)) = some (some z, sz, bytes))
    (hlen : ∀ y, (emb y).length = sz) (h1 : ∀ y, ∀ u ∈ emb y, u.oneCell' = true) (hsz : 0 < sz)
    (B g n c c' : Nat) (ys zs : List α) (hd : a.eval d = .slice (some ⟨g, 0, none⟩) n c) (hown : OwnM sz emb w B e (some ⟨g, 0, none⟩) n c ys) (A' : Option Addr) (hs : a.eval s = .slice A' n c') (hr : RdM sz emb w A' n zs)
    (h : ∀ w1, OwnM sz emb w1 B e (some ⟨g, 0, none⟩) n c zs → w.grownBy w1 (some g) → wpList P ops Q rest (a.put o.dst (goInt n)) w1) : wpList P ops Q (o :: rest) a w := by
  refine wpList_plain hgd fun K hK => ?_
  obtain ⟨i, hi, hz, hsize, hby⟩ := info_parts hinfo
  obtain ⟨w1, hrun, h2, h3⟩ := run_copyM (P := P) w dT sT o.type e i hu hi hsize hlen h1 B g n c c' ys zs hown A' hr hsz
  unfold Oper.wp
  simp [execOp, ho, resolve, invoke, builtin, hd, hs, hrun, Result.andThen]
  exact hK _ _ (h w1 h2 h3)
end
/-- Calls, of the call's own. -/
def RetC (ys : List Cl) (w : World) (x : Ending) (w' : World) : Prop := ∃ (A : Option Addr) (n c : Nat), x = .returned (.slice A n c) ∧ Hid (ys.length = n) ∧ OwnC w' w.heap.size 36 A n c ys ∧ Below w.heap.size w w'
theorem impl_copyCalls (A : Option Addr) (n c : Nat) (xs : List Cl) (w : World) (hx : RdC w A n xs) (hn : n ≤ 1048576) :
    Calls Try.prog 50 #[.slice A n c] w (RetC xs w) := by
  have HL := hx.len
  have hmk : ∀ W : World, (Instr.makeSlice 25 (.int .i64 (n : Int)) (.int .i64 ((n : Int) + 1))).run Try.prog W = .ok (.slice (some ⟨W.heap.size, 0, none⟩) n (n + 1)) (W.alloc (.cells (madeCells #[.int .i64 0, .int .i64 0, .int .i64 0] ((n + 1) * 3)) 36)) := fun W => run_make_capM (P := Try.prog) 25 36 (.agg #[.int .i64 0, .int .i64 0, .int .i64 0]) 3 24 Try.underlying25 info_call .i64 .i64 n (n + 1) (by omega) (by omega) (by omega) W
  have OM : OwnC (w.alloc (.cells (madeCells #[.int .i64 0, .int .i64 0, .int .i64 0] ((n + 1) * 3)) 36)) w.heap.size 36 (some ⟨w.heap.size, 0, none⟩) n (n + 1) (List.replicate n ⟨0, 0, 0⟩) := by
    have h := OwnM.made clv_len (by omega) (e := 36) w (⟨0, 0, 0⟩ : Cl) (n + 1) (by unfold maxLen; omega) w.heap.size (Nat.le_refl _)
    refine ⟨by rw [flat_len clv_len]; simp, ?_⟩
    rcases h.2 with ⟨h', _⟩ | ⟨g, cap, cur, h', hB, hg, hnc, hcm, hcs, ht⟩
    · cases h'
    · simp only [Value.slice.injEq, Option.some.injEq, Addr.mk.injEq, true_and, and_true] at h'
      obtain ⟨rfl, rfl⟩ := h'
      refine .inr ⟨_, n + 1, cur, rfl, hB, hg, by omega, hcm, hcs, ?_⟩
      have e1 : cur.toList.take (n * 3) = (cur.toList.take ((n + 1) * 3)).take (n * 3) := by rw [List.take_take]; congr 1; omega
      rw [e1, ht, List.replicate_succ', List.flatMap_append]
      have e2 : ((List.replicate n (⟨0, 0, 0⟩ : Cl)).flatMap clv).length = n * 3 := by rw [flat_len clv_len]; simp
      rw [← e2]; exact List.take_left
  go_enter Try.func50, Try.ntmps50
  go_wp2_with (with_reducible refine wpList_copyM rfl (.tmp 10) (.tmp 11) _ _ rfl 36 (.agg #[.int .i64 0, .int .i64 0, .int .i64 0]) 24 Try.underlying25 info_call clv_len clv_one (by omega) w.heap.size w.heap.size n (n + 1) c _ xs rfl OM A rfl (hx.below (below_box w _) (Nat.le_refl _)) ?_)
  intro w1 O1 G1
  clear hmk
  go_wp2
  go_ret
  exact ⟨_, n, n + 1, rfl, HL.out, O1, bgrown (below_box w _) G1 (by simp) (fun g hg => by injection hg with hg; omega)⟩
end Go.Proofs.Ytcickfahpcmcdaa
