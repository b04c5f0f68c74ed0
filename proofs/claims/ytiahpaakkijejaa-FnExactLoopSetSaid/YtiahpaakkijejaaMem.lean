/- Memory words of this seat's proofs: a slice that reads as a list (RdL), a slice of the call's own (OwnL), and small list lemmas. No condition. -/
import Derived.WalkKit
import Derived.WalkLawsBesides
import Derived.WalkSpells
import Derived.Deep.LoopGhost
import Derived.Deep.OwnRows
import Derived.Lib.Hide
import Derived.Deep.QuietTactic
import Derived.BigQuiet
import Derived.Deep.Draws
import Derived.Deep.Light
namespace Go.Proofs.Ytiahpaakkijejaa
open Go.RowKit
set_option linter.unusedSimpArgs false
set_option linter.unusedVariables false

abbrev iv : Int → Value := Value.int .i64
abbrev bv : Bool → Value := Value.bool
theorem ret_bool {a b : Bool} (h : a = b) : Ending.returned (.bool a) = .returned (.bool b) := by rw [h]
theorem ret_int {a b : Int} (h : a = b) : Ending.returned (.int .i64 a) = .returned (.int .i64 b) := by rw [h]
theorem take_snoc {α : Type} {xs : List α} {k : Nat} {x : α} (h : xs[k]? = some x) : xs.take (k + 1) = xs.take k ++ [x] := by
  rw [List.take_add_one, h]; rfl
theorem all_snoc {α : Type} {p : α → Bool} {xs : List α} {k : Nat} {x : α} (h : xs[k]? = some x) (ha : (xs.take k).all p = true) (hp : p x = true) : (xs.take (k + 1)).all p = true := by
  rw [take_snoc h, List.all_append, ha]; simp [hp]
theorem all_stop {α : Type} {p : α → Bool} {xs : List α} {k : Nat} {x : α} (h : xs[k]? = some x) (hp : p x = false) : xs.all p = false := by
  rw [List.all_eq_false]
  exact ⟨x, List.mem_of_getElem? h, by simp [hp]⟩
theorem all_done {α : Type} {p : α → Bool} {xs : List α} {k : Nat} (h : (xs.take k).all p = true) (hk : xs.length ≤ k) : xs.all p = true := by
  rwa [List.take_of_length_le hk] at h
theorem set_fill {α : Type} {xs : List α} {z x : α} {n k : Nat} (hl : xs.length = n) (hk : k < n) (h : xs[k]? = some x) :
    (xs.take k ++ List.replicate (n - k) z).set k x = xs.take (k + 1) ++ List.replicate (n - (k + 1)) z := by
  rw [take_snoc h, List.set_append_right _ _ (by simp [hl]; omega)]
  have e : n - k = (n - (k + 1)) + 1 := by omega
  rw [e, List.replicate_succ]
  have : k - (List.take k xs).length = 0 := by simp [hl]; omega
  rw [this, List.set_cons_zero, List.append_assoc]; rfl

theorem take_eq_snoc {α : Type} {xs ys : List α} {k : Nat} {x : α} (h : xs.take k = ys.take k) (hx : xs[k]? = some x) (hy : ys[k]? = some x) : xs.take (k + 1) = ys.take (k + 1) := by
  rw [take_snoc hx, take_snoc hy, h]
theorem ne_of_at {α : Type} {xs ys : List α} {k : Nat} {x y : α} (hx : xs[k]? = some x) (hy : ys[k]? = some y) (hne : ¬ x = y) : ¬ xs = ys := by
  rintro rfl; rw [hx] at hy; injection hy with hy; exact hne hy
theorem eq_of_take {α : Type} {xs ys : List α} {k : Nat} (h : xs.take k = ys.take k) (hx : xs.length ≤ k) (hy : ys.length ≤ k) : xs = ys := by
  rwa [List.take_of_length_le hx, List.take_of_length_le hy] at h

theorem bstep {w w0 w1 : World} (B0 : Below w.heap.size w w0) (b : Below w0.heap.size w0 w1) : Below w.heap.size w w1 := B0.trans (b.mono B0.size)
theorem below_drewN {B : Nat} {a w : World} (h : Below B a w) (m : Nat) : Below B a (w.drewN m) := ⟨h.os, h.tape, h.output, h.size, h.block⟩
/-- A reader that answers whether P holds. -/
def RetB (P : Prop) (w : World) (e : Ending) (w' : World) : Prop := ∃ b, e = .returned (.bool b) ∧ Hid (b = true ↔ P) ∧ ∃ m, w' = w.drewN m
theorem RetB.yes {P : Prop} {w : World} (h : P) (m : Nat) : RetB P w (.returned (.bool true)) (w.drewN m) := ⟨true, rfl, ⟨fun _ => h, fun _ => rfl⟩, m, rfl⟩
theorem RetB.no {P : Prop} {w : World} (h : ¬ P) (m : Nat) : RetB P w (.returned (.bool false)) (w.drewN m) := ⟨false, rfl, ⟨(by simp), fun h' => absurd h' h⟩, m, rfl⟩
theorem RetB.no2 {P : Prop} {w : World} (h : ¬ P) (m k : Nat) : RetB P w (.returned (.bool false)) ((w.drewN m).drewN k) := by rw [World.drewN_drewN]; exact RetB.no h _
theorem RetB.yes2 {P : Prop} {w : World} (h : P) (m k : Nat) : RetB P w (.returned (.bool true)) ((w.drewN m).drewN k) := by rw [World.drewN_drewN]; exact RetB.yes h _
theorem quiet_add {P : Program} {f : FuncId} {args : Array Value} {w : World} {a n : Nat} {v : Value}
    (h : Calls P f args (w.drewN (a + n)) fun e w' => e = .returned v ∧ ∃ m, w' = (w.drewN (a + n)).drewN m) :
    Calls P f args (w.drewN (a + n)) fun e w'' => e = .returned v ∧ ∃ m, w'' = w.drewN (a + m) :=
  h.mono fun _ _ ⟨he, m, hm⟩ => ⟨he, n + m, by rw [hm, World.drewN_drewN, Nat.add_assoc]⟩

/-- The slice value '.slice A n c' reads as the list ys, one cell an element. -/
def RdL {α : Type} (emb : α → Value) (w : World) (A : Option Addr) (n : Nat) (ys : List α) : Prop :=
  ys.length = n ∧ (0 < n → ∃ b off, A = some ⟨b, off, none⟩ ∧ ∀ (k : Nat) y, ys[k]? = some y → w.cell? ⟨b, off + k, none⟩ = some (emb y))
section
variable {α : Type} {emb : α → Value} {w w' : World} {A : Option Addr} {n : Nat} {ys : List α}
theorem RdL.len (h : RdL emb w A n ys) : Hid (ys.length = n) := h.1
theorem RdL.at (h : RdL emb w A n ys) {k : Nat} (hk : k < n) :
    ∃ b off y, A = some ⟨b, off, none⟩ ∧ Hid (ys[k]? = some y) ∧ w.cell? ⟨b, off + k, none⟩ = some (emb y) := by
  obtain ⟨b, off, hA, hc⟩ := h.2 (by omega)
  have hl : k < ys.length := by rw [h.1]; exact hk
  exact ⟨b, off, ys[k], hA, List.getElem?_eq_getElem hl, hc k _ (List.getElem?_eq_getElem hl)⟩
theorem RdL.below {B : Nat} (h : RdL emb w A n ys) (hb : Below B w w') (hB : w.heap.size ≤ B) : RdL emb w' A n ys :=
  ⟨h.1, fun hn => by
    obtain ⟨b, off, hA, hc⟩ := h.2 hn
    refine ⟨b, off, hA, fun k y hy => ?_⟩
    have hlt : b < w.heap.size := World.block_lt_of_cell? _ _ (hc k y hy)
    exact (hb.cell (p := ⟨b, off + k, none⟩) (by show b < B; omega)).trans (hc k y hy)⟩
theorem RdL.drewN (h : RdL emb w A n ys) (m : Nat) : RdL emb (w.drewN m) A n ys := h
theorem RdL.nil (c : Nat) : RdL emb w none 0 ([] : List α) := ⟨rfl, fun h => absurd h (by omega)⟩
end

/-- The slice value '.slice A n c' is of the call's own, from block B on, and holds the list ys. -/
def OwnL {α : Type} (emb : α → Value) (w : World) (B : Nat) (e : TypeId) (A : Option Addr) (n c : Nat) (ys : List α) : Prop :=
  w.ownsRow B e 1 (.slice A n c) n (ys.map emb)
section
variable {α : Type} {emb : α → Value} {w w' : World} {B : Nat} {e : TypeId} {A : Option Addr} {n c : Nat} {ys : List α}
theorem OwnL.len (h : OwnL emb w B e A n c ys) : Hid (ys.length = n) := by
  have := h.1; simp at this; exact this
theorem OwnL.at (h : OwnL emb w B e A n c ys) {k : Nat} (hk : k < n) :
    ∃ g y, A = some ⟨g, 0, none⟩ ∧ B ≤ g ∧ g < w.heap.size ∧ Hid (ys[k]? = some y) ∧ w.cell? ⟨g, k, none⟩ = some (emb y) ∧ w.frozen? ⟨g, k, none⟩ = false := by
  have hl : k < ys.length := by rw [h.len.out]; exact hk
  rcases h.2 with ⟨h', h0⟩ | ⟨g, cap, cur, h', hB, hg, _⟩
  · omega
  · simp only [Value.slice.injEq, true_and] at h'
    obtain ⟨rfl, rfl⟩ := h'
    have hc := World.ownsRow.cellAt h k (by omega)
    have hlt : g < w.heap.size := (World.ownsRow.lt h g rfl).2
    refine ⟨g, ys[k], rfl, hB, hlt, List.getElem?_eq_getElem hl, ?_, World.ownsRow.frozenAt h k⟩
    rw [hc]; simp [hl]
theorem OwnL.cap (h : OwnL emb w B e A n c ys) : n ≤ c ∧ c ≤ maxLen := by
  rcases h.2 with ⟨h', h0⟩ | ⟨g, cap, cur, h', hB, hg, hnc, hcm, _⟩
  · simp only [Value.slice.injEq] at h'; obtain ⟨_, rfl, rfl⟩ := h'; exact ⟨Nat.le_refl _, Nat.zero_le _⟩
  · simp only [Value.slice.injEq, true_and] at h'; obtain ⟨_, rfl⟩ := h'; exact ⟨hnc, hcm⟩
theorem OwnL.set {g : Nat} (h : OwnL emb w B e (some ⟨g, 0, none⟩) n c ys) (k : Nat) (y : α) : OwnL emb (w.setCell ⟨g, k, none⟩ (emb y)) B e (some ⟨g, 0, none⟩) n c (ys.set k y) := by
  have := (World.ownsRow.stored h k (emb y)).1
  unfold OwnL; rwa [List.map_set]
theorem OwnL.rd (h : OwnL emb w B e A n c ys) : RdL emb w A n ys := by
  refine ⟨h.len.out, fun hn => ?_⟩
  obtain ⟨g, y, hA, _⟩ := h.at hn
  subst hA
  refine ⟨g, 0, rfl, fun k y hy => ?_⟩
  have hk : k < n := by rw [← h.len.out]; exact (List.getElem?_eq_some_iff.1 hy).1
  obtain ⟨g', y', hA, _, _, hy', hc, _⟩ := h.at hk
  injection hA with hA; injection hA with hA; subst hA
  have e1 := hy'.out
  rw [hy] at e1; injection e1 with e1; subst e1
  simpa using hc
theorem OwnL.below {B' : Nat} (h : OwnL emb w B e A n c ys) (hb : Below B' w w') (hB : w.heap.size ≤ B') : OwnL emb w' B e A n c ys := by
  refine ⟨h.1, ?_⟩
  rcases h.2 with h0 | ⟨g, cap, cur, h', hB1, hg, r⟩
  · exact .inl h0
  · have hlt : g < w.heap.size := by
      rcases Nat.lt_or_ge g w.heap.size with hlt | hge
      · exact hlt
      · rw [Array.getElem?_eq_none hge] at hg; cases hg
    exact .inr ⟨g, cap, cur, h', hB1, (hb.block g (by omega)).trans hg, r⟩
theorem OwnL.alloc (h : OwnL emb w B e A n c ys) (o : Obj) : OwnL emb (w.alloc o) B e A n c ys := World.ownsRow.alloc h o
theorem OwnL.drew (h : OwnL emb w B e A n c ys) : OwnL emb w.drew B e A n c ys := h
theorem OwnL.drewN (h : OwnL emb w B e A n c ys) (m : Nat) : OwnL emb (w.drewN m) B e A n c ys := h
theorem OwnL.made (w : World) (z : α) (n : Nat) (hn : n ≤ maxLen) (B : Nat) (hB : B ≤ w.heap.size) : OwnL emb (w.alloc (.cells (madeCells #[emb z] n) e)) B e (some ⟨w.heap.size, 0, none⟩) n n (List.replicate n z) := by
  have := World.ownsRow_lit (base := B) (e := e) (size := 1) w (madeCells #[emb z] n) n hB hn (by rw [size_madeCells]; omega)
  unfold OwnL
  rwa [List.map_replicate, ← toList_madeCells_one]
end
end Go.Proofs.Ytiahpaakkijejaa
