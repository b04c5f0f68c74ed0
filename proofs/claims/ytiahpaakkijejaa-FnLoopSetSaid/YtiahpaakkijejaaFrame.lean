/- What the proofs' frames share: how an argument that came in is opened for the walk (a slice of numbers reads as a list, a shape as three numbers). No condition. -/
import Derived.Test.YtiahpaakkijejaaCom
import Derived.ProofKit
import Derived.OpenShut
import Derived.ShutString
import Derived.ChangeOld
import Derived.Below
import Derived.Lib.SmallJoins
import Derived.Deep.Slices
import Derived.Deep.Strs
import Derived.Test.YtiahpaakkijejaaMemC
import Derived.Test.YtiahpaakkijejaaTab
namespace Go.Proofs.Ytiahpaakkijejaa
open Go.ChangeShapes Go.WideShapes Go.ChangeAt Go.RowKit
set_option linter.unusedSimpArgs false
set_option linter.unusedVariables false
theorem own : ownKnob Try.prog.godebug = none := by kernel_rfl
theorem laidOut : laidOutB Try.prog = true := by kernel_rfl
/-- The closed facts on the translation's head, reckoned once. -/
theorem heavyB : (Try.pinned.checked.prog.mayEnter && ((({ program := "", sum := "", func := "", spec := "", apart := false } : OpenClaim).lifted == Try.pinned.checked.prog.liftsFinal) && (Try.pinned.checked.prog.make == some ({ program := "", sum := "", func := "", spec := "", apart := false } : OpenClaim).make))) = true := by kernel_rfl
theorem heavy : Try.pinned.checked.prog.mayEnter = true ∧ (({ program := "", sum := "", func := "", spec := "", apart := false } : OpenClaim).lifted == Try.pinned.checked.prog.liftsFinal) = true ∧ (Try.pinned.checked.prog.make == some ({ program := "", sum := "", func := "", spec := "", apart := false } : OpenClaim).make) = true := by
  have h := heavyB
  rw [Bool.and_eq_true_iff, Bool.and_eq_true_iff] at h
  exact h
section
variable {H : Type} {enc : TypeId × Value → H}
theorem add_spot {b off : Nat} (k : Nat) : (⟨b, off, none⟩ : Addr).add k = ⟨b, off + k, none⟩ := by
  unfold Addr.add
  split
  · simp_all
  · rfl
/-- A slice that came in, each element of one cell, reads as a list. -/
theorem rdl_of_trod {α : Type} {emb : α → Value} {Q : α → Prop} {P : Program} {t e : TypeId} {W : World} {a : Option Addr} {n c : Nat} {d : DataW H} {p : List MemPlace} (ht : P.underlying t = some (.slice e)) (hC : P.cellsOf e = 1)
    (hel : ∀ fuel v y, DataW.trod enc P W 0 (fun _ => true) true fuel e [v] = some y → ∃ z, v = emb z ∧ Q z)
    (h : DataW.Trod enc P W 0 (fun _ => true) true t (.slice a n c) d p) : ∃ zs, RdL emb W a n zs ∧ n ≤ c ∧ c ≤ maxLen ∧ ∀ z ∈ zs, Q z := by
  obtain ⟨fuel, hf⟩ := h
  rcases Go.Deep.open_slice1 ht hC hf with ⟨hcs, _⟩ | ⟨x, l, cc, m, fu, V, D, Pl, hcs, _, hl, hm, hmm, _, hcell⟩
  · simp [Value.cells] at hcs
    obtain ⟨rfl, rfl, rfl⟩ := hcs
    exact ⟨[], RdL.nil 0, Nat.le_refl _, Nat.zero_le _, by simp⟩
  · simp [Value.cells] at hcs
    obtain ⟨rfl, rfl, rfl⟩ := hcs
    simp at hmm
    subst hmm
    have key : ∀ k, k ≤ n → ∃ zs : List α, zs.length = k ∧ (∀ (i : Nat) z, zs[i]? = some z → W.cell? (x.add i) = some (emb z)) ∧ ∀ z ∈ zs, Q z := by
      intro k
      induction k with
      | zero => intro _; exact ⟨[], rfl, by simp, by simp⟩
      | succ k ih =>
        intro hk
        obtain ⟨zs, h1, h2, h3⟩ := ih (by omega)
        obtain ⟨hv, htr⟩ := hcell k (by omega)
        obtain ⟨z, hz, hq⟩ := hel _ _ _ htr
        refine ⟨zs ++ [z], by simp [h1], fun i y hy => ?_, fun y hy => ?_⟩
        · rcases Nat.lt_or_ge i zs.length with hi | hi
          · rw [List.getElem?_append_left hi] at hy; exact h2 i y hy
          · rw [List.getElem?_append_right hi] at hy
            have : i - zs.length = 0 := by
              rcases Nat.eq_zero_or_pos (i - zs.length) with h0 | h0
              · exact h0
              · rw [List.getElem?_eq_none (by simp; omega)] at hy; cases hy
            rw [this] at hy
            simp at hy
            subst hy
            obtain rfl : i = k := by omega
            rw [hv, hz]
        · rcases List.mem_append.1 hy with h4 | h4
          · exact h3 y h4
          · simp at h4; subst h4; exact hq
    obtain ⟨zs, h1, h2, h3⟩ := key n (Nat.le_refl _)
    refine ⟨zs, ⟨h1, fun hn => ?_⟩, hl, hm, h3⟩
    obtain ⟨b, off, spot⟩ := x
    have hspot : spot = none := by
      obtain ⟨hv, _⟩ := hcell 0 (by omega)
      simpa [Addr.add] using World.cell?_spot hv
    subst hspot
    exact ⟨b, off, rfl, fun k y hy => by rw [← add_spot]; exact h2 k y hy⟩
theorem open_ints {W : World} {a : Option Addr} {n c : Nat} {d : DataW H} {p : List MemPlace} (h : DataW.Trod enc Try.prog W 0 (fun _ => true) true 25 (.slice a n c) d p) :
    ∃ zs, RdL iv W a n zs ∧ n ≤ c ∧ c ≤ maxLen ∧ ∀ z ∈ zs, (Lit.int .i64 z).wf = true :=
  rdl_of_trod Try.underlying25 (by kernel_rfl) (fun fuel v y hy => by obtain ⟨z, e, _, hw⟩ := DataW.trod_int Try.underlying3 hy; simp at e; exact ⟨z, e, hw⟩) h
theorem open_bytes {W : World} {a : Option Addr} {n c : Nat} {d : DataW H} {p : List MemPlace} (h : DataW.Trod enc Try.prog W 0 (fun _ => true) true 22 (.slice a n c) d p) :
    ∃ zs, RdL (Value.int .u8) W a n zs ∧ n ≤ c ∧ c ≤ maxLen ∧ ∀ z ∈ zs, (Lit.int .u8 z).wf = true :=
  rdl_of_trod Try.underlying22 (by kernel_rfl) (fun fuel v y hy => by obtain ⟨z, e, _, hw⟩ := DataW.trod_int Try.underlying5 hy; simp at e; exact ⟨z, e, hw⟩) h
theorem open_bools {W : World} {a : Option Addr} {n c : Nat} {d : DataW H} {p : List MemPlace} (h : DataW.Trod enc Try.prog W 0 (fun _ => true) true 31 (.slice a n c) d p) :
    ∃ zs, RdL bv W a n zs ∧ n ≤ c ∧ c ≤ maxLen ∧ ∀ z ∈ zs, z = z :=
  rdl_of_trod Try.underlying31 (by kernel_rfl) (fun fuel v y hy => by obtain ⟨z, e, _⟩ := DataW.trod_bool Try.underlying4 hy; simp at e; exact ⟨z, e, rfl⟩) h
/-- A slice that came in, each element of sz cells, reads as a list. -/
theorem rdm_of_trod {α : Type} {sz : Nat} {emb : α → List Value} {Q : α → Prop} {P : Program} {t e : TypeId} {W : World} {a : Option Addr} {n c : Nat} {d : DataW H} {p : List MemPlace} (hs : ∀ a, (emb a).length = sz) (h0 : 0 < sz) (ht : P.underlying t = some (.slice e)) (hC : P.cellsOf e = sz)
    (hel : ∀ fuel cs y, cs.length = sz → DataW.trod enc P W 0 (fun _ => true) true fuel e cs = some y → ∃ z, cs = emb z ∧ Q z)
    (h : DataW.Trod enc P W 0 (fun _ => true) true t (.slice a n c) d p) : ∃ zs, RdM sz emb W a n zs ∧ n ≤ c ∧ c ≤ maxLen ∧ ∀ z ∈ zs, Q z := by
  obtain ⟨fuel, hf⟩ := h
  rcases Go.Deep.open_slice ht hf with ⟨hcs, _⟩ | ⟨x, l, cc, m, fu, D, Pl, hcs, _, hl, hm, hmm, _, hcell⟩
  · simp [Value.cells] at hcs
    obtain ⟨rfl, rfl, rfl⟩ := hcs
    exact ⟨[], RdM.nil, Nat.le_refl _, Nat.zero_le _, by simp⟩
  · simp [Value.cells] at hcs
    obtain ⟨rfl, rfl, rfl⟩ := hcs
    simp at hmm
    subst hmm
    rw [hC] at hcell
    have key : ∀ k, k ≤ n → ∃ zs : List α, zs.length = k ∧ (∀ (i : Nat) z, zs[i]? = some z → ∀ (j : Nat) u, (emb z)[j]? = some u → W.cell? ((x.add (i * sz)).add j) = some u) ∧ ∀ z ∈ zs, Q z := by
      intro k
      induction k with
      | zero => intro _; exact ⟨[], rfl, by simp, by simp⟩
      | succ k ih =>
        intro hk
        obtain ⟨zs, h1, h2, h3⟩ := ih (by omega)
        obtain ⟨cs', hv, htr⟩ := hcell k (by omega)
        obtain ⟨_, hcl, hat⟩ := World.cells?_some hv
        obtain ⟨z, hz, hq⟩ := hel _ _ _ hcl htr
        refine ⟨zs ++ [z], by simp [h1], fun i y hy => ?_, fun y hy => ?_⟩
        · rcases Nat.lt_or_ge i zs.length with hi | hi
          · rw [List.getElem?_append_left hi] at hy; exact h2 i y hy
          · rw [List.getElem?_append_right hi] at hy
            have : i - zs.length = 0 := by
              rcases Nat.eq_zero_or_pos (i - zs.length) with h0 | h0
              · exact h0
              · rw [List.getElem?_eq_none (by simp; omega)] at hy; cases hy
            rw [this] at hy
            simp at hy
            subst hy
            obtain rfl : i = k := by omega
            intro j u hu
            have hj : j < sz := by rw [← hs z]; exact (List.getElem?_eq_some_iff.1 hu).1
            rw [hat j hj, hz, hu]
        · rcases List.mem_append.1 hy with h4 | h4
          · exact h3 y h4
          · simp at h4; subst h4; exact hq
    obtain ⟨zs, h1, h2, h3⟩ := key n (Nat.le_refl _)
    refine ⟨zs, ⟨h1, fun hn => ?_⟩, hl, hm, h3⟩
    obtain ⟨b, off, spot⟩ := x
    have hspot : spot = none := by
      obtain ⟨cs', hv, htr⟩ := hcell 0 (by omega)
      obtain ⟨_, hcl, hat⟩ := World.cells?_some hv
      have h00 := hat 0 h0
      rw [List.getElem?_eq_getElem (by omega)] at h00
      simpa [Addr.add] using World.cell?_spot h00
    subst hspot
    refine ⟨b, off, rfl, fun k y hy j u hu => ?_⟩
    have := h2 k y hy j u hu
    rwa [add_spot, add_spot] at this
theorem rows_of {Q : Hd → List Int → Prop} : ∀ hs : List Hd, (∀ z ∈ hs, ∃ r, Q z r) → ∃ rows : List (List Int), rows.length = hs.length ∧ ∀ (k : Nat) h r, hs[k]? = some h → rows[k]? = some r → Q h r := by
  intro hs
  induction hs with
  | nil => intro _; exact ⟨[], rfl, by simp⟩
  | cons z hs ih =>
    intro h
    obtain ⟨r, hr⟩ := h z (by simp)
    obtain ⟨rows, h1, h2⟩ := ih (fun y hy => h y (by simp [hy]))
    refine ⟨r :: rows, by simp [h1], fun k y s hy hs' => ?_⟩
    cases k with
    | zero => simp at hy hs'; subst hy hs'; exact hr
    | succ k => simp at hy hs'; exact h2 k y s hy hs'
theorem open_rows {W : World} {a : Option Addr} {n c : Nat} {d : DataW H} {p : List MemPlace} (h : DataW.Trod enc Try.prog W 0 (fun _ => true) true 54 (.slice a n c) d p) :
    ∃ rows, RdT W a n rows ∧ n ≤ c ∧ c ≤ maxLen ∧ ∀ r ∈ rows, r.length ≤ maxLen := by
  obtain ⟨hs, h1, h2, h3, h4⟩ := rdl_of_trod (emb := hdv) (Q := fun z : Hd => ∃ r, RdL iv W z.a z.n r ∧ z.n ≤ z.c ∧ z.c ≤ maxLen) Try.underlying54 (by kernel_rfl) (fun fuel v y hy => by
    rcases Go.Deep.open_slice1 Try.underlying25 (by kernel_rfl) hy with ⟨hcs, _⟩ | ⟨x, l, cc, m, fu, V, D, Pl, hcs, _, hl, hm, _⟩
    · injection hcs with hv _
      exact ⟨⟨none, 0, 0⟩, hv, [], RdL.nil 0, Nat.le_refl _, Nat.zero_le _⟩
    · injection hcs with hv _
      subst hv
      obtain ⟨zs, g1, g2, g3, _⟩ := open_ints (enc := enc) (W := W) (a := some x) (n := l) (c := cc) (d := y.1) (p := y.2) ⟨fuel, hy⟩
      exact ⟨⟨some x, l, cc⟩, rfl, zs, g1, g2, g3⟩) h
  obtain ⟨rows, r1, r2⟩ := rows_of hs h4
  refine ⟨rows, ⟨hs, h1, r1.trans h1.1, fun k y r hy hr => ⟨(r2 k y r hy hr).1, (r2 k y r hy hr).2.1⟩⟩, h2, h3, fun r hr => ?_⟩
  obtain ⟨k, hk⟩ := List.getElem?_of_mem hr
  have hl : k < hs.length := by rw [← r1]; exact (List.getElem?_eq_some_iff.1 hk).1
  obtain ⟨g1, g2, g3⟩ := r2 k _ r (List.getElem?_eq_getElem hl) hk
  rw [g1.1]; omega
end
end Go.Proofs.Ytiahpaakkijejaa
