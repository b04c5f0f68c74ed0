/- Memory words for tables: slices of slices of numbers (RdT: it reads as a list of lists; OwnT: it is of the call's own, in blocks from B on and below F, each row in a block of its own); Kb: what is kept but for some blocks. No condition. -/
import Derived.Test.YtiahpaakkijejaaCom
import Derived.Test.YtiahpaakkijejaaMem2
namespace Go.Proofs.Ytiahpaakkijejaa
open Go.RowKit
set_option linter.unusedSimpArgs false
set_option linter.unusedVariables false
/-- All is as it was, but for the blocks of which S speaks. -/
structure Kb (S : Nat → Prop) (w w' : World) : Prop where
  os : w'.os = w.os
  tape : w'.tape = w.tape
  output : w'.output = w.output
  size : w.heap.size ≤ w'.heap.size
  block : ∀ k, k < w.heap.size → ¬ S k → w'.heap[k]? = w.heap[k]?
section
variable {S : Nat → Prop} {a b c w w' : World}
theorem Kb.refl (S : Nat → Prop) (w : World) : Kb S w w := ⟨rfl, rfl, rfl, Nat.le_refl _, fun _ _ _ => rfl⟩
theorem Kb.trans (h : Kb S a b) (k : Kb S b c) : Kb S a c := ⟨k.os.trans h.os, k.tape.trans h.tape, k.output.trans h.output, Nat.le_trans h.size k.size, fun i hi hn => (k.block i (Nat.lt_of_lt_of_le hi h.size) hn).trans (h.block i hi hn)⟩
theorem Kb.mono {T : Nat → Prop} (h : Kb S a b) (hT : ∀ k, k < a.heap.size → S k → T k) : Kb T a b := ⟨h.os, h.tape, h.output, h.size, fun i hi hn => h.block i hi (fun hs => hn (hT i hi hs))⟩
theorem Kb.of (h : Below a.heap.size a b) : Kb S a b := ⟨h.os, h.tape, h.output, h.size, fun i hi _ => h.block i hi⟩
theorem Kb.below (h : Kb S a b) (hS : ∀ k, k < a.heap.size → ¬ S k) : Below a.heap.size a b := ⟨h.os, h.tape, h.output, h.size, fun i hi => h.block i hi (hS i hi)⟩
theorem Kb.alloc (h : Kb S a b) (o : Obj) : Kb S a (b.alloc o) := h.trans (Kb.of (below_box b o))
theorem Kb.drewN (h : Kb S a b) (m : Nat) : Kb S a (b.drewN m) := ⟨h.os, h.tape, h.output, h.size, h.block⟩
theorem Kb.drew (h : Kb S a b) : Kb S a b.drew := ⟨h.os, h.tape, h.output, h.size, h.block⟩
theorem Kb.set (h : Kb S a b) {p : Addr} (hp : S p.block ∨ a.heap.size ≤ p.block) (u : Value) : Kb S a (b.setCell p u) :=
  ⟨h.os, h.tape, h.output, by simpa [World.setCell] using h.size, fun i hi hn => (Below.heap_setCell b p u i (by
    rintro rfl
    rcases hp with hp | hp
    · exact hn hp
    · omega)).trans (h.block i hi hn)⟩
theorem Kb.grown {row : Option Nat} (h : Kb S a b) (hg : b.grownBy c row) (hr : ∀ g, row = some g → S g ∨ a.heap.size ≤ g) : Kb S a c :=
  ⟨hg.os.trans h.os, hg.tape.trans h.tape, hg.output.trans h.output, Nat.le_trans h.size hg.size, fun i hi hn => (hg.block i (Nat.lt_of_lt_of_le hi h.size) (fun e => by
    rcases hr i e.symm with h1 | h1
    · exact hn h1
    · omega)).trans (h.block i hi hn)⟩
/-- A step that writes only in blocks that are new since the first. -/
theorem Kb.comp {T : Nat → Prop} (h : Kb S a b) (k : Kb T b c) (hT : ∀ g, T g → S g ∨ a.heap.size ≤ g) : Kb S a c :=
  ⟨k.os.trans h.os, k.tape.trans h.tape, k.output.trans h.output, Nat.le_trans h.size k.size, fun i hi hn => (k.block i (Nat.lt_of_lt_of_le hi h.size) (fun ht => by
    rcases hT i ht with h1 | h1
    · exact hn h1
    · omega)).trans (h.block i hi hn)⟩
end
section
variable {α : Type} {emb : α → Value} {w w' : World} {A : Option Addr} {n c B : Nat} {e : TypeId} {ys : List α}
theorem OwnL.keep (h : OwnL emb w B e A n c ys) (hk : ∀ g, blk A = some g → w'.heap[g]? = w.heap[g]?) : OwnL emb w' B e A n c ys := by
  refine ⟨h.1, ?_⟩
  rcases h.2 with h0 | ⟨g, cap, cur, h', hB1, hg, r⟩
  · exact .inl h0
  · refine .inr ⟨g, cap, cur, h', hB1, (hk g ?_).trans hg, r⟩
    simp only [Value.slice.injEq] at h'
    rw [h'.1]; rfl
theorem OwnL.kb {S : Nat → Prop} (h : OwnL emb w B e A n c ys) (hk : Kb S w w') (hS : ∀ g, blk A = some g → ¬ S g) : OwnL emb w' B e A n c ys :=
  h.keep fun g hg => hk.block g (h.lt hg).2 (hS g hg)
theorem RdL.keep (h : RdL emb w A n ys) (hk : ∀ g, blk A = some g → g < w.heap.size → w'.heap[g]? = w.heap[g]?) : RdL emb w' A n ys :=
  ⟨h.1, fun hn => by
    obtain ⟨b, off, hA, hc⟩ := h.2 hn
    refine ⟨b, off, hA, fun k y hy => ?_⟩
    exact (World.cell?_of_block (hk b (by rw [hA]; rfl) (World.block_lt_of_cell? _ _ (hc k y hy)))).trans (hc k y hy)⟩
theorem RdL.kb {S : Nat → Prop} (h : RdL emb w A n ys) (hk : Kb S w w') (hS : ∀ g, blk A = some g → ¬ S g) : RdL emb w' A n ys :=
  h.keep fun g hg hl => hk.block g hl (hS g hg)
end
/-- A row's slice. -/
structure Hd where
  a : Option Addr
  n : Nat
  c : Nat
abbrev hdv (h : Hd) : Value := .slice h.a h.n h.c
theorem hdv_one (h : Hd) : (hdv h).oneCell' = true := rfl
theorem info_row : (Try.prog.info? 25).map (fun i => (i.zero, i.size, i.bytes)) = some (some (.slice none 0 0), 1, 24) := by kernel_rfl
def RdT (w : World) (A : Option Addr) (n : Nat) (rows : List (List Int)) : Prop :=
  ∃ hs : List Hd, RdL hdv w A n hs ∧ rows.length = n ∧ ∀ (k : Nat) h r, hs[k]? = some h → rows[k]? = some r → RdL iv w h.a h.n r ∧ h.n ≤ h.c
section
variable {w w' : World} {A : Option Addr} {n : Nat} {rows : List (List Int)}
theorem RdT.len (h : RdT w A n rows) : Hid (rows.length = n) := by obtain ⟨hs, _, h2, _⟩ := h; exact h2
theorem RdT.at (h : RdT w A n rows) {k : Nat} (hk : k < n) :
    ∃ b off Ak nk ck r, A = some ⟨b, off, none⟩ ∧ Hid (rows[k]? = some r) ∧ w.cell? ⟨b, off + k, none⟩ = some (.slice Ak nk ck) ∧ RdL iv w Ak nk r ∧ nk ≤ ck := by
  obtain ⟨hs, h1, h2, h3⟩ := h
  obtain ⟨b, off, y, hA, HY, hc⟩ := h1.at hk
  have hl : k < rows.length := by rw [h2]; exact hk
  obtain ⟨h4, h5⟩ := h3 k y rows[k] HY.out (List.getElem?_eq_getElem hl)
  exact ⟨b, off, y.a, y.n, y.c, rows[k], hA, List.getElem?_eq_getElem hl, hc, h4, h5⟩
theorem RdT.below {B : Nat} (h : RdT w A n rows) (hb : Below B w w') (hB : w.heap.size ≤ B) : RdT w' A n rows := by
  obtain ⟨hs, h1, h2, h3⟩ := h
  exact ⟨hs, h1.below hb hB, h2, fun k y r hy hr => ⟨(h3 k y r hy hr).1.below hb hB, (h3 k y r hy hr).2⟩⟩
theorem RdT.drewN (h : RdT w A n rows) (m : Nat) : RdT (w.drewN m) A n rows := h
theorem RdT.drew (h : RdT w A n rows) : RdT w.drew A n rows := h
theorem RdT.nil : RdT w none 0 [] := ⟨[], RdL.nil 0, rfl, by simp⟩
theorem RdT.take (h : RdT w A n rows) {k : Nat} (hk : k ≤ n) : RdT w A k (rows.take k) := by
  obtain ⟨hs, h1, h2, h3⟩ := h
  refine ⟨hs.take k, h1.take hk, by simp [h2]; omega, fun j y r hy hr => ?_⟩
  rw [List.getElem?_take] at hy hr
  split at hy
  · rw [if_pos (by assumption)] at hr; exact h3 j y r hy hr
  · cases hy
theorem RdT.drop {b off k : Nat} (h : RdT w (some ⟨b, off, none⟩) n rows) (hk : k ≤ n) : RdT w (some ⟨b, off + k, none⟩) (n - k) (rows.drop k) := by
  obtain ⟨hs, h1, h2, h3⟩ := h
  refine ⟨hs.drop k, h1.drop hk, by simp [h2], fun j y r hy hr => ?_⟩
  rw [List.getElem?_drop] at hy hr
  exact h3 (k + j) y r hy hr
end
/-- The table is of the call's own, in blocks from B on and below F; hs are its rows' slices. -/
structure TabH (w : World) (B F : Nat) (A : Option Addr) (n c : Nat) (rows : List (List Int)) (hs : List Hd) : Prop where
  own : OwnL hdv w B 25 A n c hs
  len : rows.length = n
  hi : ∀ b, blk A = some b → b < F
  row : ∀ (k : Nat) h r, hs[k]? = some h → rows[k]? = some r → OwnL iv w B 3 h.a h.n h.c r ∧ ∀ b, blk h.a = some b → blk A ≠ some b ∧ b < F
  sep : ∀ (k l : Nat) h g b, k ≠ l → hs[k]? = some h → hs[l]? = some g → blk h.a = some b → blk g.a ≠ some b
def OwnT (w : World) (B F : Nat) (A : Option Addr) (n c : Nat) (rows : List (List Int)) : Prop := ∃ hs : List Hd, TabH w B F A n c rows hs
section
variable {w w' : World} {B F : Nat} {A : Option Addr} {n c : Nat} {rows : List (List Int)} {hs : List Hd}
theorem TabH.keep (h : TabH w B F A n c rows hs) (hk : ∀ g, B ≤ g → g < F → w'.heap[g]? = w.heap[g]?) : TabH w' B F A n c rows hs :=
  ⟨h.own.keep fun g hg => hk g (h.own.lt hg).1 (h.hi g hg), h.len, h.hi, fun k y r hy hr => ⟨(h.row k y r hy hr).1.keep fun g hg => hk g ((h.row k y r hy hr).1.lt hg).1 ((h.row k y r hy hr).2 g hg).2, (h.row k y r hy hr).2⟩, h.sep⟩
theorem TabH.rd (h : TabH w B F A n c rows hs) : RdT w A n rows :=
  ⟨hs, h.own.rd, h.len, fun k y r hy hr => ⟨(h.row k y r hy hr).1.rd, (h.row k y r hy hr).1.cap.1⟩⟩
theorem TabH.hlen (h : TabH w B F A n c rows hs) : hs.length = n := h.own.len.out
theorem TabH.lt (h : TabH w B F A n c rows hs) {k : Nat} {y : Hd} (hy : hs[k]? = some y) {b : Nat} (hb : blk y.a = some b) : B ≤ b ∧ b < w.heap.size ∧ b < F := by
  have hk : k < rows.length := by rw [h.len, ← h.hlen]; exact (List.getElem?_eq_some_iff.1 hy).1
  have h1 := h.row k y rows[k] hy (List.getElem?_eq_getElem hk)
  exact ⟨(h1.1.lt hb).1, (h1.1.lt hb).2, (h1.2 b hb).2⟩
theorem TabH.up {F' : Nat} (h : TabH w B F A n c rows hs) (hF : F ≤ F') : TabH w B F' A n c rows hs :=
  ⟨h.own, h.len, fun b hb => Nat.lt_of_lt_of_le (h.hi b hb) hF, fun k y r hy hr => ⟨(h.row k y r hy hr).1, fun b hb => ⟨((h.row k y r hy hr).2 b hb).1, Nat.lt_of_lt_of_le ((h.row k y r hy hr).2 b hb).2 hF⟩⟩, h.sep⟩
theorem TabH.tight (h : TabH w B F A n c rows hs) : TabH w B w.heap.size A n c rows hs :=
  ⟨h.own, h.len, fun b hb => (h.own.lt hb).2, fun k y r hy hr => ⟨(h.row k y r hy hr).1, fun b hb => ⟨((h.row k y r hy hr).2 b hb).1, ((h.row k y r hy hr).1.lt hb).2⟩⟩, h.sep⟩
theorem OwnT.len (h : OwnT w B F A n c rows) : Hid (rows.length = n) := by obtain ⟨hs, h1⟩ := h; exact h1.len
theorem OwnT.cap (h : OwnT w B F A n c rows) : n ≤ c ∧ c ≤ maxLen := by obtain ⟨hs, h1⟩ := h; exact h1.own.cap
theorem OwnT.lt (h : OwnT w B F A n c rows) {g : Nat} (hg : blk A = some g) : B ≤ g ∧ g < w.heap.size ∧ g < F := by obtain ⟨hs, h1⟩ := h; exact ⟨(h1.own.lt hg).1, (h1.own.lt hg).2, h1.hi g hg⟩
theorem OwnT.rd (h : OwnT w B F A n c rows) : RdT w A n rows := by obtain ⟨hs, h1⟩ := h; exact h1.rd
theorem OwnT.up {F' : Nat} (h : OwnT w B F A n c rows) (hF : F ≤ F') : OwnT w B F' A n c rows := by obtain ⟨hs, h1⟩ := h; exact ⟨hs, h1.up hF⟩
theorem OwnT.tight (h : OwnT w B F A n c rows) : OwnT w B w.heap.size A n c rows := by obtain ⟨hs, h1⟩ := h; exact ⟨hs, h1.tight⟩
theorem OwnT.keep (h : OwnT w B F A n c rows) (hk : ∀ g, B ≤ g → g < F → g < w.heap.size → w'.heap[g]? = w.heap[g]?) : OwnT w' B F A n c rows := by
  obtain ⟨hs, h1⟩ := h
  refine ⟨hs, h1.own.keep fun g hg => hk g (h1.own.lt hg).1 (h1.hi g hg) (h1.own.lt hg).2, h1.len, h1.hi, fun k y r hy hr => ⟨(h1.row k y r hy hr).1.keep fun g hg => hk g ((h1.row k y r hy hr).1.lt hg).1 ((h1.row k y r hy hr).2 g hg).2 ((h1.row k y r hy hr).1.lt hg).2, (h1.row k y r hy hr).2⟩, h1.sep⟩
theorem OwnT.kb {S : Nat → Prop} (h : OwnT w B F A n c rows) (hk : Kb S w w') (hS : ∀ g, B ≤ g → g < F → ¬ S g) : OwnT w' B F A n c rows := h.keep fun g h1 h2 h3 => hk.block g h3 (hS g h1 h2)
theorem OwnT.below {B' : Nat} (h : OwnT w B F A n c rows) (hb : Below B' w w') (hB : w.heap.size ≤ B') : OwnT w' B F A n c rows := h.keep fun g _ _ h3 => hb.block g (by omega)
theorem OwnT.far (h : OwnT w B F A n c rows) (p : Addr) (u : Value) (hp : p.block < B ∨ F ≤ p.block) : OwnT (w.setCell p u) B F A n c rows := h.keep fun g h1 h2 _ => Below.heap_setCell w p u g (by omega)
theorem OwnT.grown {row : Option Nat} (h : OwnT w B F A n c rows) (hg : w.grownBy w' row) (hr : ∀ g, row = some g → g < B ∨ F ≤ g) : OwnT w' B F A n c rows := h.keep fun g h1 h2 h3 => hg.block g h3 (fun e => by have := hr g e.symm; omega)
theorem OwnT.mono {B' : Nat} (h : OwnT w B F A n c rows) (hB : B' ≤ B) : OwnT w B' F A n c rows := by
  obtain ⟨hs, h1⟩ := h
  exact ⟨hs, h1.own.mono hB, h1.len, h1.hi, fun k y r hy hr => ⟨(h1.row k y r hy hr).1.mono hB, (h1.row k y r hy hr).2⟩, h1.sep⟩
theorem OwnT.alloc (h : OwnT w B F A n c rows) (o : Obj) : OwnT (w.alloc o) B F A n c rows := h.below (below_box w o) (Nat.le_refl _)
theorem OwnT.drewN (h : OwnT w B F A n c rows) (m : Nat) : OwnT (w.drewN m) B F A n c rows := h.keep fun _ _ _ _ => rfl
theorem OwnT.drew (h : OwnT w B F A n c rows) : OwnT w.drew B F A n c rows := h.keep fun _ _ _ _ => rfl
theorem OwnT.at (h : OwnT w B F A n c rows) {k : Nat} (hk : k < n) :
    ∃ g Ak nk ck r, A = some ⟨g, 0, none⟩ ∧ B ≤ g ∧ g < w.heap.size ∧ g < F ∧ Hid (rows[k]? = some r) ∧ w.cell? ⟨g, k, none⟩ = some (.slice Ak nk ck) ∧ w.frozen? ⟨g, k, none⟩ = false ∧ OwnL iv w B 3 Ak nk ck r ∧ (∀ b, blk Ak = some b → b ≠ g ∧ b < F) := by
  obtain ⟨hs, h1⟩ := h
  obtain ⟨g, y, hA, hB, hg, HY, hc, hf⟩ := h1.own.at hk
  have hl : k < rows.length := by rw [h1.len]; exact hk
  obtain ⟨h5, h6⟩ := h1.row k y rows[k] HY.out (List.getElem?_eq_getElem hl)
  refine ⟨g, y.a, y.n, y.c, rows[k], hA, hB, hg, h1.hi g (by rw [hA]; rfl), List.getElem?_eq_getElem hl, hc, hf, h5, fun b hb => ⟨fun e => (h6 b hb).1 (by rw [hA, e]; rfl), (h6 b hb).2⟩⟩
/-- One number of the table. -/
theorem OwnT.at2 (h : OwnT w B F A n c rows) {k j : Nat} (hk : k < n) {r : List Int} (hr : rows[k]? = some r) (hj : j < r.length) :
    ∃ g gk nk ck x, A = some ⟨g, 0, none⟩ ∧ B ≤ g ∧ g < w.heap.size ∧ g < F ∧ w.cell? ⟨g, k, none⟩ = some (.slice (some ⟨gk, 0, none⟩) nk ck) ∧ B ≤ gk ∧ gk < w.heap.size ∧ gk < F ∧ gk ≠ g ∧ nk = r.length ∧ nk ≤ ck ∧ Hid (r[j]? = some x) ∧ w.cell? ⟨gk, j, none⟩ = some (iv x) ∧ w.frozen? ⟨gk, j, none⟩ = false := by
  obtain ⟨g, Ak, nk, ck, r', hA, h1, h2, h3, HR, hc, hf, ho, hb⟩ := h.at hk
  have e := HR.out
  rw [hr] at e; injection e with e; subst e
  have hl := ho.len.out
  obtain ⟨gk, x, rfl, h4, h5, HX, hcx, hfx⟩ := ho.at (k := j) (by omega)
  exact ⟨g, gk, nk, ck, x, hA, h1, h2, h3, hc, h4, h5, (hb gk rfl).2, (hb gk rfl).1, hl.symm, ho.cap.1, HX, hcx, hfx⟩
theorem OwnT.nil : OwnT w B F none 0 0 [] := ⟨[], OwnL.nil, rfl, (fun b hb => by cases hb), by simp, by simp⟩
theorem OwnT.lit0 (w : World) (hB : B ≤ w.heap.size) : OwnT (w.alloc (.cells #[] 25)) B (w.heap.size + 1) (some ⟨w.heap.size, 0, none⟩) 0 0 [] :=
  ⟨[], by have := OwnL.lit (emb := hdv) (e := 25) (B := B) w [] (by simp) hB; exact this, rfl, fun b hb => by rw [blk_some] at hb; injection hb; omega, by simp, by simp⟩
/-- A table that was just made: rows of nothing. -/
theorem OwnT.made (w : World) (n : Nat) (hn : n ≤ maxLen) (hB : B ≤ w.heap.size) : OwnT (w.alloc (.cells (madeCells #[.slice none 0 0] n) 25)) B (w.heap.size + 1) (some ⟨w.heap.size, 0, none⟩) n n (List.replicate n []) := by
  have h1 := OwnL.made (emb := hdv) (e := 25) w ⟨none, 0, 0⟩ n hn B hB
  have hat : ∀ {k : Nat} {h : Hd}, (List.replicate n (⟨none, 0, 0⟩ : Hd))[k]? = some h → h = ⟨none, 0, 0⟩ := fun {k h} hy => by
    rw [List.getElem?_replicate] at hy
    split at hy
    · injection hy with hy; exact hy.symm
    · cases hy
  refine ⟨_, h1, by simp, fun b hb => by rw [blk_some] at hb; injection hb; omega, fun k h r hy hr => ?_, fun k l h g b _ hy hz hb => ?_⟩
  · obtain rfl := hat hy
    rw [List.getElem?_replicate] at hr
    split at hr
    · injection hr with hr; subst hr
      exact ⟨OwnL.nil, fun b hb => by cases hb⟩
    · cases hr
  · obtain rfl := hat hy
    cases hb
/-- A number of a row is stored. -/
theorem OwnT.put {g gk nk ck : Nat} {r : List Int} (h : OwnT w B F (some ⟨g, 0, none⟩) n c rows) {k : Nat} (hk : k < n) (hc : w.cell? ⟨g, k, none⟩ = some (.slice (some ⟨gk, 0, none⟩) nk ck)) (hr : rows[k]? = some r) (j : Nat) (y : Int) :
    OwnT (w.setCell ⟨gk, j, none⟩ (.int .i64 y)) B F (some ⟨g, 0, none⟩) n c (rows.set k (r.set j y)) := by
  obtain ⟨hs, h1⟩ := h
  obtain ⟨g', z, hA, hB, hg, HY, hc', hf⟩ := h1.own.at hk
  injection hA with hA; injection hA with hA; subst hA
  rw [hc] at hc'
  injection hc' with hc'
  have hz : z = ⟨some ⟨gk, 0, none⟩, nk, ck⟩ := by cases z; simp [hdv] at hc'; simp [hc']
  subst hz
  have hkk := h1.row k _ r HY.out hr
  have hne := (hkk.2 gk rfl).1
  refine ⟨hs, h1.own.far _ _ (by simpa using hne), by simp [h1.len], h1.hi, fun l y' r' hy' hr' => ?_, h1.sep⟩
  by_cases hl : k = l
  · subst hl
    rw [HY.out] at hy'; injection hy' with hy'; subst hy'
    rw [List.getElem?_set, if_pos rfl, if_pos (by rw [h1.len]; exact hk)] at hr'
    injection hr' with hr'; subst hr'
    exact ⟨OwnL.set hkk.1 j y, hkk.2⟩
  · rw [List.getElem?_set, if_neg hl] at hr'
    exact ⟨(h1.row l y' r' hy' hr').1.far _ _ (h1.sep k l _ y' gk hl HY.out hy' rfl), (h1.row l y' r' hy' hr').2⟩
/-- A row that was made anew is stored into the table. -/
theorem OwnT.putNew {w0 : World} {Ar : Option Addr} {nr cr : Nat} {r : List Int} {g k : Nat} (h0 : OwnT w0 B F (some ⟨g, 0, none⟩) n c rows) (hbel : Below w0.heap.size w0 w) (hk : k < n) (hr : OwnL iv w w0.heap.size 3 Ar nr cr r) {F' : Nat} (hF : F ≤ F') (hF' : w.heap.size ≤ F') :
    OwnT (w.setCell ⟨g, k, none⟩ (.slice Ar nr cr)) B F' (some ⟨g, 0, none⟩) n c (rows.set k r) := by
  obtain ⟨hs, h⟩ := h0
  have hgl := (h.own.lt (g := g) rfl)
  have hkeep : ∀ b, b < w0.heap.size → w.heap[b]? = w0.heap[b]? := fun b hb => hbel.block b hb
  have hl : k < hs.length := by rw [h.hlen]; exact hk
  have hrb : ∀ b, blk Ar = some b → w0.heap.size ≤ b ∧ b < w.heap.size := fun b hb => hr.lt hb
  refine ⟨hs.set k ⟨Ar, nr, cr⟩, OwnL.set (h.own.keep fun b hb => hkeep b (h.own.lt hb).2) k (⟨Ar, nr, cr⟩ : Hd), by simp [h.len], fun b hb => by have := h.hi b hb; omega, fun l y r' hy hr' => ?_, fun l m y z b hne hy hz hb => ?_⟩
  · rw [List.getElem?_set] at hy hr'
    by_cases hkl : k = l
    · subst hkl
      rw [if_pos rfl, if_pos hl] at hy
      rw [if_pos rfl, if_pos (by rw [h.len]; exact hk)] at hr'
      injection hy with hy; injection hr' with hr'; subst hy hr'
      refine ⟨(hr.mono (by omega)).far _ _ (fun hb => by have := (hrb g hb).1; omega), fun b hb => ⟨fun e => ?_, by have := hrb b hb; omega⟩⟩
      rw [blk_some] at e; injection e with e
      have := (hrb b hb).1; omega
    · rw [if_neg hkl] at hy hr'
      have h3 := h.row l y r' hy hr'
      exact ⟨(h3.1.keep fun b hb => hkeep b (h3.1.lt hb).2).far _ _ (fun hb => (h3.2 g hb).1 rfl), fun b hb => ⟨(h3.2 b hb).1, by have := (h3.2 b hb).2; omega⟩⟩
  · rw [List.getElem?_set] at hy hz
    by_cases hkl : k = l
    · subst hkl
      rw [if_pos rfl, if_pos hl] at hy
      injection hy with hy; subst hy
      rw [if_neg hne] at hz
      intro e
      have := (h.lt hz e).2.1
      have := (hrb b hb).1; omega
    · rw [if_neg hkl] at hy
      by_cases hkm : k = m
      · subst hkm
        rw [if_pos rfl, if_pos hl] at hz
        injection hz with hz; subst hz
        intro e
        have := (h.lt hy hb).2.1
        have := (hrb b e).1; omega
      · rw [if_neg hkm] at hz
        exact h.sep l m y z b hne hy hz hb
/-- A row that was made anew is appended to the table. -/
theorem TabH.push {w0 : World} {Ar A1 : Option Addr} {nr cr N c1 : Nat} {r : List Int} {o : Obj} (h : TabH w0 B F A n c rows hs) (hbel : Below w0.heap.size w0 w) (hr : OwnL iv w w0.heap.size 3 Ar nr cr r) (hB : B ≤ w0.heap.size)
    (ho : OwnL hdv w' B 25 A1 N c1 (hs ++ [⟨Ar, nr, cr⟩])) (hg : (w.alloc o).grownBy w' (blk A)) (hb1 : blk A1 = blk A ∨ blk A1 = some (w.alloc o).heap.size) (hN : n + 1 = N) {F' : Nat} (hF : F ≤ F') (hF' : w'.heap.size ≤ F') :
    OwnT w' B F' A1 N c1 (rows ++ [r]) := by
  have hw0 := hbel.size
  have hrb : ∀ b, blk Ar = some b → w0.heap.size ≤ b ∧ b < w.heap.size := fun b hb => hr.lt hb
  have hws : (w.alloc o).heap.size = w.heap.size + 1 := by simp
  have hgs := hg.size
  have hA : ∀ g, blk A = some g → g < w0.heap.size := fun g hg => (h.own.lt hg).2
  have hkeep : ∀ b, b < w.heap.size → blk A ≠ some b → w'.heap[b]? = w.heap[b]? := fun b hb hne => (hg.block b (by omega) (fun e => hne e.symm)).trans (Below.heap_alloc w o b hb)
  have hhl := h.hlen
  have hrl := h.len
  refine ⟨_, ho, by simp [h.len]; omega, fun b hb => by have := (ho.lt hb).2; omega, fun k y r' hy hr' => ?_, fun k l y z b hne hy hz hb => ?_⟩
  · rcases Nat.lt_or_ge k n with hk | hk
    · rw [List.getElem?_append_left (by omega)] at hy
      rw [List.getElem?_append_left (by omega)] at hr'
      have h3 := h.row k y r' hy hr'
      refine ⟨h3.1.keep fun b hb => (hkeep b (by have := (h3.1.lt hb).2; omega) (h3.2 b hb).1).trans (hbel.block b (h3.1.lt hb).2), fun b hb => ⟨?_, by have := (h3.2 b hb).2; omega⟩⟩
      rcases hb1 with e | e
      · rw [e]; exact (h3.2 b hb).1
      · rw [e]; intro e2; injection e2 with e2; have := (h3.1.lt hb).2; omega
    · have hk' : k = n := by
        have := (List.getElem?_eq_some_iff.1 hy).1; simp at this; omega
      rw [List.getElem?_append_right (by omega), hk', hhl, Nat.sub_self] at hy
      rw [List.getElem?_append_right (by omega), hk', hrl, Nat.sub_self] at hr'
      simp at hy hr'
      subst hy hr'
      refine ⟨(hr.keep fun b hb => hkeep b (hrb b hb).2 (fun e => by have := hA b e; have := (hrb b hb).1; omega)).mono hB, fun b hb => ⟨?_, by have := hrb b hb; omega⟩⟩
      rcases hb1 with e | e
      · rw [e]; intro e2; have := hA b e2; have := (hrb b hb).1; omega
      · rw [e]; intro e2; injection e2 with e2; have := (hrb b hb).2; omega
  · have hnew : ∀ {k : Nat} {y : Hd}, (hs ++ [(⟨Ar, nr, cr⟩ : Hd)])[k]? = some y → (k < n ∧ hs[k]? = some y) ∨ (k = n ∧ y = ⟨Ar, nr, cr⟩) := fun {k y} hy => by
      rcases Nat.lt_or_ge k n with hk | hk
      · rw [List.getElem?_append_left (by omega)] at hy; exact .inl ⟨hk, hy⟩
      · have hk' : k = n := by
          have := (List.getElem?_eq_some_iff.1 hy).1; simp at this; omega
        rw [List.getElem?_append_right (by omega), hk', hhl, Nat.sub_self] at hy
        simp at hy
        exact .inr ⟨hk', hy.symm⟩
    rcases hnew hy with ⟨hk, hy'⟩ | ⟨hk, rfl⟩ <;> rcases hnew hz with ⟨hl, hz'⟩ | ⟨hl, rfl⟩
    · exact h.sep k l y z b hne hy' hz' hb
    · intro e; have := (h.lt hy' hb).2.1; have := (hrb b e).1; omega
    · intro e; have := (h.lt hz' e).2.1; have := (hrb b hb).1; omega
    · omega
end
end Go.Proofs.Ytiahpaakkijejaa
