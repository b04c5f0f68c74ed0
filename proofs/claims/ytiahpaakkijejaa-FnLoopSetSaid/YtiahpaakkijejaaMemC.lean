/- Memory words for slices of structs: an element takes sz cells (RdM: it reads as a list; OwnM: it is of the call's own). No condition. -/
import Derived.Test.YtiahpaakkijejaaMem
namespace Go.Proofs.Ytiahpaakkijejaa
open Go.RowKit
set_option linter.unusedSimpArgs false
set_option linter.unusedVariables false

section
variable {α : Type} {sz : Nat} {emb : α → List Value}
theorem flat_len (hs : ∀ a, (emb a).length = sz) (ys : List α) : (ys.flatMap emb).length = ys.length * sz := by
  induction ys with
  | nil => simp
  | cons y r ih => rw [List.flatMap_cons, List.length_append, hs, ih, List.length_cons, Nat.add_mul]; omega
theorem flat_at (hs : ∀ a, (emb a).length = sz) {ys : List α} {k j : Nat} {y : α} (h : ys[k]? = some y) (hj : j < sz) : (ys.flatMap emb)[k * sz + j]? = (emb y)[j]? := by
  induction ys generalizing k with
  | nil => simp at h
  | cons x r ih =>
    rw [List.flatMap_cons]
    cases k with
    | zero => simp at h; subst h; rw [List.getElem?_append_left (by rw [hs]; omega)]; simp
    | succ k =>
      rw [List.getElem?_append_right (by rw [hs, Nat.add_mul]; omega), hs]
      have : (k + 1) * sz + j - sz = k * sz + j := by rw [Nat.add_mul]; omega
      rw [this]; exact ih (by simpa using h)
theorem flat_set (hs : ∀ a, (emb a).length = sz) {ys : List α} {k j : Nat} {y y' : α} {u : Value} (h : ys[k]? = some y) (hj : j < sz) (he : emb y' = (emb y).set j u) : (ys.flatMap emb).set (k * sz + j) u = (ys.set k y').flatMap emb := by
  induction ys generalizing k with
  | nil => simp at h
  | cons x r ih =>
    rw [List.flatMap_cons]
    cases k with
    | zero => simp at h; subst h; rw [List.set_append_left _ _ (by rw [hs]; omega)]; simp [he]
    | succ k =>
      rw [List.set_append_right _ _ (by rw [hs, Nat.add_mul]; omega), hs]
      have : (k + 1) * sz + j - sz = k * sz + j := by rw [Nat.add_mul]; omega
      rw [this, ih (by simpa using h), List.set_cons_succ, List.flatMap_cons]
end

def RdM {α : Type} (sz : Nat) (emb : α → List Value) (w : World) (A : Option Addr) (n : Nat) (ys : List α) : Prop :=
  ys.length = n ∧ (0 < n → ∃ b off, A = some ⟨b, off, none⟩ ∧ ∀ (k : Nat) y, ys[k]? = some y → ∀ (j : Nat) u, (emb y)[j]? = some u → w.cell? ⟨b, off + k * sz + j, none⟩ = some u)
section
variable {α : Type} {sz : Nat} {emb : α → List Value} {w w' : World} {A : Option Addr} {n : Nat} {ys : List α}
theorem RdM.len (h : RdM sz emb w A n ys) : Hid (ys.length = n) := h.1
theorem RdM.at (h : RdM sz emb w A n ys) {k : Nat} (hk : k < n) :
    ∃ b off y, A = some ⟨b, off, none⟩ ∧ Hid (ys[k]? = some y) ∧ ∀ (j : Nat) u, (emb y)[j]? = some u → w.cell? ⟨b, off + k * sz + j, none⟩ = some u := by
  obtain ⟨b, off, hA, hc⟩ := h.2 (by omega)
  have hl : k < ys.length := by rw [h.1]; exact hk
  exact ⟨b, off, ys[k], hA, List.getElem?_eq_getElem hl, hc k _ (List.getElem?_eq_getElem hl)⟩
theorem RdM.below {B : Nat} (h : RdM sz emb w A n ys) (hb : Below B w w') (hB : w.heap.size ≤ B) : RdM sz emb w' A n ys :=
  ⟨h.1, fun hn => by
    obtain ⟨b, off, hA, hc⟩ := h.2 hn
    refine ⟨b, off, hA, fun k y hy j u hu => ?_⟩
    have hlt : b < w.heap.size := World.block_lt_of_cell? _ _ (hc k y hy j u hu)
    exact (hb.cell (p := ⟨b, off + k * sz + j, none⟩) (by show b < B; omega)).trans (hc k y hy j u hu)⟩
theorem RdM.drewN (h : RdM sz emb w A n ys) (m : Nat) : RdM sz emb (w.drewN m) A n ys := h
theorem RdM.nil : RdM sz emb w none 0 ([] : List α) := ⟨rfl, fun h => absurd h (by omega)⟩
theorem RdM.take (h : RdM sz emb w A n ys) {k : Nat} (hk : k ≤ n) : RdM sz emb w A k (ys.take k) := by
  refine ⟨by rw [List.length_take, h.1]; omega, fun hn => ?_⟩
  obtain ⟨b, off, hA, hc⟩ := h.2 (by omega)
  refine ⟨b, off, hA, fun i y hy => hc i y ?_⟩
  rw [List.getElem?_take] at hy
  split at hy
  · exact hy
  · cases hy
end

def OwnM {α : Type} (sz : Nat) (emb : α → List Value) (w : World) (B : Nat) (e : TypeId) (A : Option Addr) (n c : Nat) (ys : List α) : Prop :=
  w.ownsRow B e sz (.slice A n c) n (ys.flatMap emb)
section
variable {α : Type} {sz : Nat} {emb : α → List Value} {w w' : World} {B : Nat} {e : TypeId} {A : Option Addr} {n c : Nat} {ys : List α}
theorem OwnM.len (hs : ∀ a, (emb a).length = sz) (h0 : 0 < sz) (h : OwnM sz emb w B e A n c ys) : Hid (ys.length = n) := by
  have := h.1; rw [flat_len hs] at this; exact Nat.eq_of_mul_eq_mul_right h0 this
theorem OwnM.at (hs : ∀ a, (emb a).length = sz) (h0 : 0 < sz) (h : OwnM sz emb w B e A n c ys) {k : Nat} (hk : k < n) :
    ∃ g y, A = some ⟨g, 0, none⟩ ∧ B ≤ g ∧ g < w.heap.size ∧ Hid (ys[k]? = some y) ∧ (∀ (j : Nat) u, (emb y)[j]? = some u → w.cell? ⟨g, k * sz + j, none⟩ = some u) ∧ ∀ j, w.frozen? ⟨g, j, none⟩ = false := by
  have hl : k < ys.length := by rw [(h.len hs h0).out]; exact hk
  rcases h.2 with ⟨h', h0⟩ | ⟨g, cap, cur, h', hB, hg, _⟩
  · omega
  · simp only [Value.slice.injEq, true_and] at h'
    obtain ⟨rfl, rfl⟩ := h'
    have hlt : g < w.heap.size := (World.ownsRow.lt h g rfl).2
    refine ⟨g, ys[k], rfl, hB, hlt, List.getElem?_eq_getElem hl, fun j u hu => ?_, fun j => World.ownsRow.frozenAt h j⟩
    have hj : j < sz := by rw [← hs ys[k]]; exact (List.getElem?_eq_some_iff.1 hu).1
    have hlt2 : k * sz + j < n * sz := by
      have := Nat.mul_le_mul_right sz (show k + 1 ≤ n by omega)
      rw [Nat.add_mul] at this; omega
    rw [World.ownsRow.cellAt h _ hlt2, flat_at hs (List.getElem?_eq_getElem hl) hj, hu]
theorem OwnM.cap (h : OwnM sz emb w B e A n c ys) : n ≤ c ∧ c ≤ maxLen := by
  rcases h.2 with ⟨h', h0⟩ | ⟨g, cap, cur, h', hB, hg, hnc, hcm, _⟩
  · simp only [Value.slice.injEq] at h'; obtain ⟨_, rfl, rfl⟩ := h'; exact ⟨Nat.le_refl _, Nat.zero_le _⟩
  · simp only [Value.slice.injEq, true_and] at h'; obtain ⟨_, rfl⟩ := h'; exact ⟨hnc, hcm⟩
/-- One cell of an element is stored into. -/
theorem OwnM.set1 (hs : ∀ a, (emb a).length = sz) {g : Nat} (h : OwnM sz emb w B e (some ⟨g, 0, none⟩) n c ys) {k j : Nat} {y y' : α} {u : Value} (hy : ys[k]? = some y) (hj : j < sz) (he : emb y' = (emb y).set j u) :
    OwnM sz emb (w.setCell ⟨g, k * sz + j, none⟩ u) B e (some ⟨g, 0, none⟩) n c (ys.set k y') := by
  have := (World.ownsRow.stored h (k * sz + j) u).1
  unfold OwnM; rwa [← flat_set hs hy hj he]
theorem OwnM.rd (hs : ∀ a, (emb a).length = sz) (h0 : 0 < sz) (h : OwnM sz emb w B e A n c ys) : RdM sz emb w A n ys := by
  refine ⟨(h.len hs h0).out, fun hn => ?_⟩
  obtain ⟨g, y, hA, _⟩ := h.at hs h0 hn
  subst hA
  refine ⟨g, 0, rfl, fun k y hy j u hu => ?_⟩
  have hk : k < n := by rw [← (h.len hs h0).out]; exact (List.getElem?_eq_some_iff.1 hy).1
  obtain ⟨g', y', hA, _, _, hy', hc, _⟩ := h.at hs h0 hk
  injection hA with hA; injection hA with hA; subst hA
  have e1 := hy'.out
  rw [hy] at e1; injection e1 with e1; subst e1
  have := hc j u hu
  simpa using this
theorem OwnM.below {B' : Nat} (h : OwnM sz emb w B e A n c ys) (hb : Below B' w w') (hB : w.heap.size ≤ B') : OwnM sz emb w' B e A n c ys := by
  refine ⟨h.1, ?_⟩
  rcases h.2 with h0 | ⟨g, cap, cur, h', hB1, hg, r⟩
  · exact .inl h0
  · have hlt : g < w.heap.size := by
      rcases Nat.lt_or_ge g w.heap.size with hlt | hge
      · exact hlt
      · rw [Array.getElem?_eq_none hge] at hg; cases hg
    exact .inr ⟨g, cap, cur, h', hB1, (hb.block g (by omega)).trans hg, r⟩
theorem OwnM.alloc (h : OwnM sz emb w B e A n c ys) (o : Obj) : OwnM sz emb (w.alloc o) B e A n c ys := World.ownsRow.alloc h o
theorem OwnM.drewN (h : OwnM sz emb w B e A n c ys) (m : Nat) : OwnM sz emb (w.drewN m) B e A n c ys := h
theorem OwnM.nil : OwnM sz emb w B e none 0 0 ([] : List α) := ⟨by simp, .inl ⟨rfl, rfl⟩⟩
end
section
variable {α : Type} {sz : Nat} {emb : α → List Value}
theorem flat_replicate {z : α} (hs : ∀ a, (emb a).length = sz) (h0 : 0 < sz) (n : Nat) : (madeCells (emb z).toArray (n * sz)).toList = (List.replicate n z).flatMap emb := by
  apply List.ext_getElem?
  intro i
  by_cases hi : i < n * sz
  · have hd : i / sz < n := Nat.div_lt_of_lt_mul (by rw [Nat.mul_comm]; exact hi)
    have hm : i % sz < sz := Nat.mod_lt _ h0
    have e : i = (i / sz) * sz + i % sz := by rw [Nat.mul_comm]; exact (Nat.div_add_mod i sz).symm
    have hz : (List.replicate n z)[i / sz]? = some z := by rw [List.getElem?_replicate, if_pos hd]
    conv => rhs; rw [e]
    rw [flat_at hs hz hm]
    have hm' : i % sz < (emb z).length := by rw [hs]; exact hm
    simp [madeCells, hi, hs, hm', List.getElem?_eq_getElem hm', getElem!_pos (emb z).toArray (i % sz) (by simpa using hm')]
  · rw [List.getElem?_eq_none (by simp [madeCells]; omega), List.getElem?_eq_none (by rw [flat_len hs]; simp; omega)]
theorem OwnM.made (hs : ∀ a, (emb a).length = sz) (h0 : 0 < sz) {e : TypeId} (w : World) (z : α) (n : Nat) (hn : n ≤ maxLen) (B : Nat) (hB : B ≤ w.heap.size) : OwnM sz emb (w.alloc (.cells (madeCells (emb z).toArray (n * sz)) e)) B e (some ⟨w.heap.size, 0, none⟩) n n (List.replicate n z) := by
  have := World.ownsRow_lit (base := B) (e := e) (size := sz) w (madeCells (emb z).toArray (n * sz)) n hB hn (by rw [size_madeCells])
  unfold OwnM
  rwa [← flat_replicate hs h0]
end
theorem run_make_rowM {P : Program} (t e : TypeId) (z : Value) (sz bytes : Nat) (ht : P.underlying t = some (.slice e)) (hinfo : (P.info? e).map (fun i => (i.zero, i.size, i.bytes)) = some (some z, sz, bytes))
    (kl kc : IntKind) (n : Nat) (hbytes : bytes * n ≤ 281474976710656) (h63 : n ≤ 9223372036854775807) (w : World) :
    (Instr.makeSlice t (.int kl (n : Int)) (.int kc (n : Int))).run P w = .ok (.slice (some ⟨w.heap.size, 0, none⟩) n n) (w.alloc (.cells (madeCells z.cells (n * sz)) e)) := by
  obtain ⟨i, hi, hz, hs, hb⟩ := info_parts hinfo
  have hb' : (i.bytes : Int) * (n : Int) ≤ 281474976710656 := by
    have h : ((i.bytes * n : Nat) : Int) ≤ 281474976710656 := by rw [hb]; omega
    rwa [Int.natCast_mul] at h
  have hr := run_make (P := P) w t e i z ht hi hz kl kc n n (by omega) (Int.le_refl _) hb' (by omega)
  simp only [Int.toNat_natCast, hs] at hr
  exact hr
end Go.Proofs.Ytiahpaakkijejaa
