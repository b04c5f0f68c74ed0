/- Memory words, second part: append onto a slice of the call's own, in the words OwnL, RdL, OwnM, RdM; what is kept when one block is written. No condition. -/
import Derived.Test.YtiahpaakkijejaaMemC
import Derived.Maps.AppendAt
import Derived.OwnWalk
import Derived.RegionTactic
namespace Go.Proofs.Ytiahpaakkijejaa
open Go.RowKit
set_option linter.unusedSimpArgs false
set_option linter.unusedVariables false
/-- A test that may make memory of its own. -/
def RetM (P : Prop) (w : World) (e : Ending) (w' : World) : Prop := ∃ b, e = .returned (.bool b) ∧ Hid (b = true ↔ P) ∧ Below w.heap.size w w'
theorem RetM.yes {P : Prop} {w w' : World} (h : P) (b : Below w.heap.size w w') : RetM P w (.returned (.bool true)) w' := ⟨true, rfl, ⟨fun _ => h, fun _ => rfl⟩, b⟩
theorem RetM.no {P : Prop} {w w' : World} (h : ¬ P) (b : Below w.heap.size w w') : RetM P w (.returned (.bool false)) w' := ⟨false, rfl, ⟨(by simp), fun h' => absurd h' h⟩, b⟩
/-- The block of a slice's address. -/
def blk (A : Option Addr) : Option Nat := A.map Addr.block
theorem ownBlock_slice (A : Option Addr) (n c : Nat) : Value.ownBlock (.slice A n c) = blk A := by cases A <;> rfl
theorem blk_some (g o : Nat) : blk (some ⟨g, o, none⟩) = some g := rfl

theorem gtrans {a b c : World} {row : Option Nat} (h : a.grownBy b row) (k : b.grownBy c row) : a.grownBy c row :=
  ⟨k.os.trans h.os, k.tape.trans h.tape, k.output.trans h.output, Nat.le_trans h.size k.size, fun i hi hn => (k.block i (Nat.lt_of_lt_of_le hi h.size) hn).trans (h.block i hi hn)⟩
/-- A second step that writes into a block that is new since the first. -/
theorem gcomp {a b c : World} {row row' : Option Nat} (h : a.grownBy b row) (k : b.grownBy c row') (hr : ∀ g, row' = some g → a.heap.size ≤ g) : a.grownBy c row :=
  ⟨k.os.trans h.os, k.tape.trans h.tape, k.output.trans h.output, Nat.le_trans h.size k.size, fun i hi hn => (k.block i (Nat.lt_of_lt_of_le hi h.size) (fun e => by have := hr i e.symm; omega)).trans (h.block i hi hn)⟩
theorem gbelow {a b : World} (h : Below a.heap.size a b) (row : Option Nat) : a.grownBy b row := ⟨h.os, h.tape, h.output, h.size, fun i hi _ => h.block i hi⟩
theorem gdrewN {a b : World} {row : Option Nat} (h : a.grownBy b row) (m : Nat) : a.grownBy (b.drewN m) row := ⟨h.os, h.tape, h.output, h.size, h.block⟩
theorem gset {a b : World} {g : Nat} (h : a.grownBy b (some g)) {p : Addr} (hp : p.block = g ∨ a.heap.size ≤ p.block) (u : Value) : a.grownBy (b.setCell p u) (some g) :=
  ⟨h.os, h.tape, h.output, by simpa [World.setCell] using h.size, fun i hi hne => (Below.heap_setCell b p u i (by
    rintro rfl
    rcases hp with hp | hp
    · exact hne (by rw [hp])
    · omega)).trans (h.block i hi hne)⟩
theorem galloc {a b : World} {row : Option Nat} (h : a.grownBy b row) (o : Obj) : a.grownBy (b.alloc o) row :=
  ⟨h.os, h.tape, h.output, Nat.le_trans h.size (by simp), fun i hi hne => (Below.heap_alloc b o i (Nat.lt_of_lt_of_le hi h.size)).trans (h.block i hi hne)⟩
/-- What is written lies from block B on: below B all is as it was. -/
theorem bgrown {B : Nat} {w w0 w1 : World} {row : Option Nat} (hb : Below B w w0) (hg : w0.grownBy w1 row) (hB : B ≤ w0.heap.size) (hr : ∀ g, row = some g → B ≤ g) : Below B w w1 :=
  ⟨hg.os.trans hb.os, hg.tape.trans hb.tape, hg.output.trans hb.output, Nat.le_trans hb.size hg.size, fun k hk => (hg.block k (by omega) (fun e => by have := hr k e.symm; omega)).trans (hb.block k hk)⟩
theorem below_box (w : World) (o : Obj) : Below w.heap.size w (w.alloc o) := (Below.refl _ _).alloc (Nat.le_refl _) o
theorem bbox {B : Nat} {w w0 : World} (hb : Below B w w0) (hB : B ≤ w0.heap.size) (o : Obj) : Below B w (w0.alloc o) := hb.alloc hB o

section
variable {α : Type} {emb : α → Value} {w w' : World} {A : Option Addr} {n c B : Nat} {e : TypeId} {ys : List α}
theorem RdL.grown {row : Option Nat} (h : RdL emb w A n ys) (hg : w.grownBy w' row) (hr : ∀ g, row = some g → blk A ≠ some g) : RdL emb w' A n ys :=
  ⟨h.1, fun hn => by
    obtain ⟨b, off, hA, hc⟩ := h.2 hn
    refine ⟨b, off, hA, fun k y hy => ?_⟩
    refine (World.cell?_of_block (hg.block b (World.block_lt_of_cell? _ _ (hc k y hy)) (fun he => ?_))).trans (hc k y hy)
    exact hr b he.symm (by rw [hA]; rfl)⟩
theorem RdL.one (w : World) (e : TypeId) (y : α) : RdL emb (w.alloc (.cells #[emb y] e)) (some ⟨w.heap.size, 0, none⟩) 1 [y] :=
  ⟨rfl, fun _ => ⟨w.heap.size, 0, rfl, fun k z hz => by
    cases k with
    | zero => simp at hz; subst hz; simp
    | succ k => simp at hz⟩⟩
theorem RdL.take (h : RdL emb w A n ys) {k : Nat} (hk : k ≤ n) : RdL emb w A k (ys.take k) := by
  refine ⟨by rw [List.length_take, h.1]; omega, fun hn => ?_⟩
  obtain ⟨b, off, hA, hc⟩ := h.2 (by omega)
  refine ⟨b, off, hA, fun i y hy => hc i y ?_⟩
  rw [List.getElem?_take] at hy
  split at hy
  · exact hy
  · cases hy
theorem RdL.drop {b off k : Nat} (h : RdL emb w (some ⟨b, off, none⟩) n ys) (hk : k ≤ n) : RdL emb w (some ⟨b, off + k, none⟩) (n - k) (ys.drop k) := by
  refine ⟨by rw [List.length_drop, h.1], fun hn => ⟨b, off + k, rfl, fun j y hy => ?_⟩⟩
  obtain ⟨b', off', hA, hc⟩ := h.2 (by omega)
  injection hA with hA; injection hA with hA hB; subst hA hB
  rw [Nat.add_assoc]
  exact hc (k + j) y (by rw [← hy, List.getElem?_drop])
theorem RdL.empty (h : ys.length = 0) : RdL emb w A 0 ys := ⟨h, fun h => absurd h (by omega)⟩
theorem OwnL.lt (h : OwnL emb w B e A n c ys) {g : Nat} (hg : blk A = some g) : B ≤ g ∧ g < w.heap.size := World.ownsRow.lt h g (by rw [ownBlock_slice]; exact hg)
theorem OwnL.grown {row : Option Nat} (h : OwnL emb w B e A n c ys) (hg : w.grownBy w' row) (hr : ∀ g, row = some g → blk A ≠ some g) : OwnL emb w' B e A n c ys :=
  World.ownsRow.kept h hg (by
    rw [ownBlock_slice]
    cases hb : blk A with
    | none => exact .inl rfl
    | some g => exact .inr (fun he => hr g he.symm hb))
theorem OwnL.mono {B' : Nat} (h : OwnL emb w B e A n c ys) (hB : B' ≤ B) : OwnL emb w B' e A n c ys := by
  refine ⟨h.1, ?_⟩
  rcases h.2 with h0 | ⟨g, cap, cur, h', hB1, r⟩
  · exact .inl h0
  · exact .inr ⟨g, cap, cur, h', by omega, r⟩
theorem OwnL.far (h : OwnL emb w B e A n c ys) (p : Addr) (u : Value) (hp : blk A ≠ some p.block) : OwnL emb (w.setCell p u) B e A n c ys := by
  refine ⟨h.1, ?_⟩
  rcases h.2 with h0 | ⟨g, cap, cur, h', hB1, hg, r⟩
  · exact .inl h0
  · refine .inr ⟨g, cap, cur, h', hB1, (Below.heap_setCell w p u g (fun he => hp ?_)).trans hg, r⟩
    simp only [Value.slice.injEq] at h'
    rw [h'.1, he]; rfl
theorem OwnL.nil : OwnL emb w B e none 0 0 ([] : List α) := ⟨by simp, .inl ⟨rfl, rfl⟩⟩
theorem OwnL.lit (w : World) (ys : List α) (hn : ys.length ≤ maxLen) (hB : B ≤ w.heap.size) : OwnL emb (w.alloc (.cells (ys.map emb).toArray e)) B e (some ⟨w.heap.size, 0, none⟩) ys.length ys.length ys := by
  have := World.ownsRow_lit (base := B) (e := e) (size := 1) w (ys.map emb).toArray ys.length hB hn (by simp)
  unfold OwnL
  simpa using this
theorem OwnL.tops {n' : Nat} (h : OwnL emb w B e A n c ys) (hn : n' ≤ n) : OwnL emb w B e A n' c (ys.take n') := by
  refine ⟨by have := h.1; simp at this; simp; omega, ?_⟩
  rcases h.2 with ⟨h', h0⟩ | ⟨g, cap, cur, h', hB1, hg, hnc, hcm, hcs, ht⟩
  · obtain rfl : n' = 0 := by omega
    simp only [Value.slice.injEq] at h'
    obtain ⟨rfl, _, rfl⟩ := h'
    exact .inl ⟨rfl, rfl⟩
  · simp only [Value.slice.injEq, true_and] at h'
    obtain ⟨rfl, rfl⟩ := h'
    refine .inr ⟨g, c, cur, rfl, hB1, hg, by omega, hcm, hcs, ?_⟩
    rw [List.map_take, ← ht, List.take_take]
    congr 1; omega
end
section
variable {α : Type} {sz : Nat} {emb : α → List Value} {w w' : World} {A : Option Addr} {n c B : Nat} {e : TypeId} {ys : List α}
theorem RdM.grown {row : Option Nat} (h : RdM sz emb w A n ys) (hg : w.grownBy w' row) (hr : ∀ g, row = some g → blk A ≠ some g) : RdM sz emb w' A n ys :=
  ⟨h.1, fun hn => by
    obtain ⟨b, off, hA, hc⟩ := h.2 hn
    refine ⟨b, off, hA, fun k y hy j u hu => ?_⟩
    refine (World.cell?_of_block (hg.block b (World.block_lt_of_cell? _ _ (hc k y hy j u hu)) (fun he => ?_))).trans (hc k y hy j u hu)
    exact hr b he.symm (by rw [hA]; rfl)⟩
theorem RdM.one (hs : ∀ a, (emb a).length = sz) (w : World) (e : TypeId) (y : α) : RdM sz emb (w.alloc (.cells (emb y).toArray e)) (some ⟨w.heap.size, 0, none⟩) 1 [y] :=
  ⟨rfl, fun _ => ⟨w.heap.size, 0, rfl, fun k z hz j u hu => by
    cases k with
    | zero => simp at hz; subst hz; simp [hu]
    | succ k => simp at hz⟩⟩
theorem OwnM.lt (h : OwnM sz emb w B e A n c ys) {g : Nat} (hg : blk A = some g) : B ≤ g ∧ g < w.heap.size := World.ownsRow.lt h g (by rw [ownBlock_slice]; exact hg)
theorem OwnM.grown {row : Option Nat} (h : OwnM sz emb w B e A n c ys) (hg : w.grownBy w' row) (hr : ∀ g, row = some g → blk A ≠ some g) : OwnM sz emb w' B e A n c ys :=
  World.ownsRow.kept h hg (by
    rw [ownBlock_slice]
    cases hb : blk A with
    | none => exact .inl rfl
    | some g => exact .inr (fun he => hr g he.symm hb))
theorem OwnM.mono {B' : Nat} (h : OwnM sz emb w B e A n c ys) (hB : B' ≤ B) : OwnM sz emb w B' e A n c ys := by
  refine ⟨h.1, ?_⟩
  rcases h.2 with h0 | ⟨g, cap, cur, h', hB1, r⟩
  · exact .inl h0
  · exact .inr ⟨g, cap, cur, h', by omega, r⟩
theorem OwnM.far (h : OwnM sz emb w B e A n c ys) (p : Addr) (u : Value) (hp : blk A ≠ some p.block) : OwnM sz emb (w.setCell p u) B e A n c ys := by
  refine ⟨h.1, ?_⟩
  rcases h.2 with h0 | ⟨g, cap, cur, h', hB1, hg, r⟩
  · exact .inl h0
  · refine .inr ⟨g, cap, cur, h', hB1, (Below.heap_setCell w p u g (fun he => hp ?_)).trans hg, r⟩
    simp only [Value.slice.injEq] at h'
    rw [h'.1, he]; rfl
theorem OwnM.lit0 (w : World) (hB : B ≤ w.heap.size) : OwnM sz emb (w.alloc (.cells #[] e)) B e (some ⟨w.heap.size, 0, none⟩) 0 0 ([] : List α) := by
  have := World.ownsRow_lit (base := B) (e := e) (size := sz) w #[] 0 hB (Nat.zero_le _) (by simp)
  unfold OwnM
  simpa using this
end

section
variable {P : Program} (w : World)
theorem run_app_nil (base : Nat) (t ty e : TypeId) (i : TypeInfo) (size : Nat) (ht : P.underlying t = some (.slice e)) (hi : P.info? e = some i)
    (v : Value) (n : Nat) (xs : List Value) (hown : w.ownsRow base e size v n xs) (c : Nat) : (Builtin.append_ #[t, t] ty #[v, .slice none 0 c]).run P w = .ok v w := by
  rcases hown.2 with ⟨rfl, rfl⟩ | ⟨g, cap, cur, rfl, _, _, hnc, _⟩
  · simp [Builtin.append_, run_underlying ht, sizeOf, typeInfo, hi, Builtin.lenOf, Builtin.firstCells]
  · simp [Builtin.append_, run_underlying ht, sizeOf, typeInfo, hi, Builtin.lenOf, Builtin.firstCells, hnc, storeCells]
theorem run_app (base : Nat) (t ty e : TypeId) (i : TypeInfo) (z : Value) (size bytes : Nat) (ht : P.underlying t = some (.slice e)) (hi : P.info? e = some i) (hz : i.zero = some z)
    (hsize : i.size = size) (hby : i.bytes = bytes) (hzs : z.cells.size = size) (hsz : 0 < size)
    (A : Option Addr) (n c : Nat) (xs : List Value) (hown : w.ownsRow base e size (.slice A n c) n xs)
    (A' : Option Addr) (m c' : Nat) (news : List Value) (hl : news.length = m * size) (hr : 0 < m → ∃ b off, A' = some ⟨b, off, none⟩ ∧ ∀ j u, news[j]? = some u → w.cell? ⟨b, off + j, none⟩ = some u) (h1 : ∀ u ∈ news, u.oneCell' = true)
    (h63 : n + m ≤ maxLen) (hbytes : (n + m) * bytes ≤ 140737488355328) (hbase : base ≤ w.heap.size) :
    ∃ A1 c1 w1, (Builtin.append_ #[t, t] ty #[.slice A n c, .slice A' m c']).run P w = .ok (.slice A1 (n + m) c1) w1 ∧ w1.ownsRow base e size (.slice A1 (n + m) c1) (n + m) (xs ++ news) ∧ w.grownBy w1 (blk A) ∧ (blk A1 = blk A ∨ blk A1 = some w.heap.size) := by
  have form : ∀ (v' : Value) (w1 : World), w1.ownsRow base e size v' (n + m) (xs ++ news) → ∃ A1 c1, v' = .slice A1 (n + m) c1 := by
    intro v' w1 h
    rcases h.2 with ⟨rfl, h0⟩ | ⟨g, cap, cur, rfl, _⟩
    · exact ⟨none, 0, by rw [h0]⟩
    · exact ⟨_, _, rfl⟩
  rcases A' with _ | ad
  · obtain rfl : m = 0 := by
      rcases Nat.eq_zero_or_pos m with h0 | h0
      · exact h0
      · obtain ⟨b, off, h, _⟩ := hr h0; cases h
    have hn : news = [] := List.eq_nil_of_length_eq_zero (by simpa using hl)
    subst hn
    exact ⟨A, c, w, run_app_nil w base t ty e i size ht hi _ n xs hown c', by simpa using hown, World.grownBy.refl w _, .inl rfl⟩
  · have hcells : ∀ j u, news[j]? = some u → w.cell? (ad.add j) = some u := by
      intro j u hu
      rcases Nat.eq_zero_or_pos m with h0 | h0
      · subst h0
        have hn : news = [] := List.eq_nil_of_length_eq_zero (by simpa using hl)
        subst hn; simp at hu
      · obtain ⟨b, off, h, hc⟩ := hr h0
        injection h with h; subst h
        have : (⟨b, off, none⟩ : Addr).add j = ⟨b, off + j, none⟩ := by
          unfold Addr.add
          split
          · simp_all
          · rfl
        rw [this]; exact hc j u hu
    obtain ⟨v', w1, hrun, h2, h3, _, h5⟩ := run_append_own_at (P := P) w base t ty e i z size bytes ht hi hz hsize hby hzs hsz _ n xs hown ad m c' news hl hcells h1 h63 hbytes hbase
    obtain ⟨A1, c1, rfl⟩ := form v' w1 h2
    rw [ownBlock_slice] at h3 h5
    rw [ownBlock_slice] at h5
    exact ⟨A1, c1, w1, hrun, h2, h3, h5⟩
theorem wp_app {o : Oper} {a : Act} {K : Act → World → Prop} {Q : Exit → Act → World → Prop} (s x : Operand) (t : TypeId)
    (ho : o.op = .call { callee := .builtin .append, args := #[s, x], argTypes := #[t, t] })
    (base : Nat) (e : TypeId) (z : Value) (size bytes : Nat) (ht : P.underlying t = some (.slice e)) (hinfo : (P.info? e).map (fun i => (i.zero, i.size, i.bytes)) = some (some z, size, bytes)) (hzs : z.cells.size = size) (hsz : 0 < size)
    (A : Option Addr) (n c : Nat) (xs : List Value) (hs : a.eval s = .slice A n c) (hown : w.ownsRow base e size (.slice A n c) n xs)
    (A' : Option Addr) (m c' : Nat) (news : List Value) (hx : a.eval x = .slice A' m c') (hl : news.length = m * size) (hr : 0 < m → ∃ b off, A' = some ⟨b, off, none⟩ ∧ ∀ j u, news[j]? = some u → w.cell? ⟨b, off + j, none⟩ = some u) (h1 : ∀ u ∈ news, u.oneCell' = true)
    (h63 : n + m ≤ maxLen) (hbytes : (n + m) * bytes ≤ 140737488355328) (hbase : base ≤ w.heap.size)
    (h : ∀ A1 c1 w1, w1.ownsRow base e size (.slice A1 (n + m) c1) (n + m) (xs ++ news) → w.grownBy w1 (blk A) → (blk A1 = blk A ∨ blk A1 = some w.heap.size) → K (a.put o.dst (.slice A1 (n + m) c1)) w1) : o.wp P a w K Q := by
  obtain ⟨i, hi, hz, hsize, hby⟩ := info_parts hinfo
  obtain ⟨A1, c1, w1, hrun, h2, h3, h4⟩ := run_app (P := P) w base t o.type e i z size bytes ht hi hz hsize hby hzs hsz A n c xs hown A' m c' news hl hr h1 h63 hbytes hbase
  unfold Oper.wp execOp
  simp only [ho, resolve, invoke, builtin, Sem.run_bind, Sem.run_pure, Result.andThen_ok, List.map_toArray, List.map_cons, List.map_nil, hs, hx, hrun]
  exact h A1 c1 w1 h2 h3 h4
theorem wpList_want {ops : Array Oper} {rest : List Oper} {o : Oper} {a : Act} {Q : Exit → Act → World → Prop} {w : World} (hw : Region.wanted o (yielded ops a.tmps) = true)
    (h : ∀ K : Act → World → Prop, (∀ a w, wpList P ops Q rest a w → K a w) → o.wp P a w K Q) : wpList P ops Q (o :: rest) a w :=
  wpList_step fun K hK => by rw [if_pos hw]; exact h K hK
/-- append onto a slice of the call's own, each element of one cell. -/
theorem wpList_appL {α : Type} {emb : α → Value} {ops : Array Oper} {rest : List Oper} {o : Oper} {a : Act} {Q : Exit → Act → World → Prop} (hw : Region.wanted o (yielded ops a.tmps) = true) (s x : Operand) (t : TypeId)
    (ho : o.op = .call { callee := .builtin .append, args := #[s, x], argTypes := #[t, t] })
    (base : Nat) (e : TypeId) (z : Value) (bytes : Nat) (ht : P.underlying t = some (.slice e)) (hinfo : (P.info? e).map (fun i => (i.zero, i.size, i.bytes)) = some (some z, 1, bytes)) (hzs : z.cells.size = 1)
    (A : Option Addr) (n c : Nat) (ys : List α) (hs : a.eval s = .slice A n c) (hown : OwnL emb w base e A n c ys)
    (A' : Option Addr) (m c' : Nat) (zs : List α) (hx : a.eval x = .slice A' m c') (hr : RdL emb w A' m zs) (h1 : ∀ y, (emb y).oneCell' = true)
    (h63 : n + m ≤ maxLen) (hbytes : (n + m) * bytes ≤ 140737488355328) (hbase : base ≤ w.heap.size)
    (h : ∀ A1 c1 w1, OwnL emb w1 base e A1 (n + m) c1 (ys ++ zs) → w.grownBy w1 (blk A) → (blk A1 = blk A ∨ blk A1 = some w.heap.size) → wpList P ops Q rest (a.put o.dst (.slice A1 (n + m) c1)) w1) : wpList P ops Q (o :: rest) a w := by
  refine wpList_want hw fun _ hK => wp_app w s x t ho base e z 1 bytes ht hinfo hzs (by omega) A n c _ hs hown A' m c' (zs.map emb) hx (by rw [List.length_map, hr.1]; omega) ?_ ?_ h63 hbytes hbase ?_
  · intro hm
    obtain ⟨b, off, hA, hc⟩ := hr.2 hm
    refine ⟨b, off, hA, fun j u hu => ?_⟩
    rw [List.getElem?_map] at hu
    obtain ⟨y, hy, rfl⟩ := Option.map_eq_some_iff.1 hu
    exact hc j y hy
  · intro u hu
    obtain ⟨y, _, rfl⟩ := List.mem_map.1 hu
    exact h1 y
  · intro A1 c1 w1 h2 h3 h4
    refine hK _ _ (h A1 c1 w1 ?_ h3 h4)
    unfold OwnL; rw [List.map_append]; exact h2
/-- append onto a slice of the call's own, each element of sz cells. -/
theorem wpList_appM {α : Type} {sz : Nat} {emb : α → List Value} {ops : Array Oper} {rest : List Oper} {o : Oper} {a : Act} {Q : Exit → Act → World → Prop} (hw : Region.wanted o (yielded ops a.tmps) = true) (s x : Operand) (t : TypeId)
    (ho : o.op = .call { callee := .builtin .append, args := #[s, x], argTypes := #[t, t] })
    (hlen : ∀ y, (emb y).length = sz) (hsz : 0 < sz)
    (base : Nat) (e : TypeId) (z : Value) (bytes : Nat) (ht : P.underlying t = some (.slice e)) (hinfo : (P.info? e).map (fun i => (i.zero, i.size, i.bytes)) = some (some z, sz, bytes)) (hzs : z.cells.size = sz)
    (A : Option Addr) (n c : Nat) (ys : List α) (hs : a.eval s = .slice A n c) (hown : OwnM sz emb w base e A n c ys)
    (A' : Option Addr) (m c' : Nat) (zs : List α) (hx : a.eval x = .slice A' m c') (hr : RdM sz emb w A' m zs) (h1 : ∀ y, ∀ u ∈ emb y, u.oneCell' = true)
    (h63 : n + m ≤ maxLen) (hbytes : (n + m) * bytes ≤ 140737488355328) (hbase : base ≤ w.heap.size)
    (h : ∀ A1 c1 w1, OwnM sz emb w1 base e A1 (n + m) c1 (ys ++ zs) → w.grownBy w1 (blk A) → (blk A1 = blk A ∨ blk A1 = some w.heap.size) → wpList P ops Q rest (a.put o.dst (.slice A1 (n + m) c1)) w1) : wpList P ops Q (o :: rest) a w := by
  refine wpList_want hw fun _ hK => wp_app w s x t ho base e z sz bytes ht hinfo hzs hsz A n c _ hs hown A' m c' (zs.flatMap emb) hx (by rw [flat_len hlen, hr.1]) ?_ ?_ h63 hbytes hbase ?_
  · intro hm
    obtain ⟨b, off, hA, hc⟩ := hr.2 hm
    refine ⟨b, off, hA, fun j u hu => ?_⟩
    have hj : j < m * sz := by have := (List.getElem?_eq_some_iff.1 hu).1; rwa [flat_len hlen, hr.1] at this
    have hd : j / sz < m := Nat.div_lt_of_lt_mul (by rw [Nat.mul_comm]; exact hj)
    have hm' : j % sz < sz := Nat.mod_lt _ hsz
    have ej : j = (j / sz) * sz + j % sz := by rw [Nat.mul_comm]; exact (Nat.div_add_mod j sz).symm
    have hdl : j / sz < zs.length := by rw [hr.1]; exact hd
    have hz' : zs[j / sz]? = some zs[j / sz] := List.getElem?_eq_getElem hdl
    rw [ej, flat_at hlen hz' hm'] at hu
    have := hc (j / sz) _ hz' (j % sz) u hu
    rw [Nat.add_assoc, ← ej] at this
    exact this
  · intro u hu
    obtain ⟨y, _, hy⟩ := List.mem_flatMap.1 hu
    exact h1 y u hy
  · intro A1 c1 w1 h2 h3 h4
    refine hK _ _ (h A1 c1 w1 ?_ h3 h4)
    unfold OwnM; rw [List.flatMap_append]; exact h2
end
section
variable {P : Program} (w : World)
theorem wpList_appLN {α : Type} {emb : α → Value} {ops : Array Oper} {rest : List Oper} {o : Oper} {a : Act} {Q : Exit → Act → World → Prop} (hw : Region.wanted o (yielded ops a.tmps) = true) (s x : Operand) (t : TypeId)
    (ho : o.op = .call { callee := .builtin .append, args := #[s, x], argTypes := #[t, t] })
    (base : Nat) (e : TypeId) (z : Value) (bytes : Nat) (ht : P.underlying t = some (.slice e)) (hinfo : (P.info? e).map (fun i => (i.zero, i.size, i.bytes)) = some (some z, 1, bytes)) (hzs : z.cells.size = 1)
    (A : Option Addr) (n c : Nat) (ys : List α) (hs : a.eval s = .slice A n c) (hown : OwnL emb w base e A n c ys)
    (A' : Option Addr) (m c' : Nat) (zs : List α) (hx : a.eval x = .slice A' m c') (hr : RdL emb w A' m zs) (h1 : ∀ y, (emb y).oneCell' = true)
    (N : Nat) (hN : n + m = N) (ws : List α) (hws : ys ++ zs = ws) (h63 : n + m ≤ maxLen) (hbytes : (n + m) * bytes ≤ 140737488355328) (hbase : base ≤ w.heap.size)
    (h : ∀ A1 c1 w1, OwnL emb w1 base e A1 N c1 ws → w.grownBy w1 (blk A) → (blk A1 = blk A ∨ blk A1 = some w.heap.size) → wpList P ops Q rest (a.put o.dst (.slice A1 N c1)) w1) : wpList P ops Q (o :: rest) a w := by
  subst hN hws
  exact wpList_appL w hw s x t ho base e z bytes ht hinfo hzs A n c ys hs hown A' m c' zs hx hr h1 h63 hbytes hbase h
end
section
variable {P : Program} (w : World)
theorem wpList_appMN {α : Type} {sz : Nat} {emb : α → List Value} {ops : Array Oper} {rest : List Oper} {o : Oper} {a : Act} {Q : Exit → Act → World → Prop} (hw : Region.wanted o (yielded ops a.tmps) = true) (s x : Operand) (t : TypeId)
    (ho : o.op = .call { callee := .builtin .append, args := #[s, x], argTypes := #[t, t] })
    (hlen : ∀ y, (emb y).length = sz) (hsz : 0 < sz)
    (base : Nat) (e : TypeId) (z : Value) (bytes : Nat) (ht : P.underlying t = some (.slice e)) (hinfo : (P.info? e).map (fun i => (i.zero, i.size, i.bytes)) = some (some z, sz, bytes)) (hzs : z.cells.size = sz)
    (A : Option Addr) (n c : Nat) (ys : List α) (hs : a.eval s = .slice A n c) (hown : OwnM sz emb w base e A n c ys)
    (A' : Option Addr) (m c' : Nat) (zs : List α) (hx : a.eval x = .slice A' m c') (hr : RdM sz emb w A' m zs) (h1 : ∀ y, ∀ u ∈ emb y, u.oneCell' = true)
    (N : Nat) (hN : n + m = N) (ws : List α) (hws : ys ++ zs = ws) (h63 : n + m ≤ maxLen) (hbytes : (n + m) * bytes ≤ 140737488355328) (hbase : base ≤ w.heap.size)
    (h : ∀ A1 c1 w1, OwnM sz emb w1 base e A1 N c1 ws → w.grownBy w1 (blk A) → (blk A1 = blk A ∨ blk A1 = some w.heap.size) → wpList P ops Q rest (a.put o.dst (.slice A1 N c1)) w1) : wpList P ops Q (o :: rest) a w := by
  subst hN hws
  exact wpList_appM w hw s x t ho hlen hsz base e z bytes ht hinfo hzs A n c ys hs hown A' m c' zs hx hr h1 h63 hbytes hbase h
end
section
variable {P : Program} (w : World)
/-- The same as a step of a region that draws its order. -/
theorem step_appM {α : Type} {sz : Nat} {emb : α → List Value} {ops : Array Oper} {o : Oper} {a : Act} {K : Act → World → Prop} {Q : Exit → Act → World → Prop} {E : Prop} (hgd : o.guard = none) (s x : Operand) (t : TypeId)
    (ho : o.op = .call { callee := .builtin .append, args := #[s, x], argTypes := #[t, t] })
    (hlen : ∀ y, (emb y).length = sz) (hsz : 0 < sz)
    (base : Nat) (e : TypeId) (z : Value) (bytes : Nat) (ht : P.underlying t = some (.slice e)) (hinfo : (P.info? e).map (fun i => (i.zero, i.size, i.bytes)) = some (some z, sz, bytes)) (hzs : z.cells.size = sz)
    (A : Option Addr) (n c : Nat) (ys : List α) (hs : a.eval s = .slice A n c) (hown : OwnM sz emb w base e A n c ys)
    (A' : Option Addr) (m c' : Nat) (zs : List α) (hx : a.eval x = .slice A' m c') (hr : RdM sz emb w A' m zs) (h1 : ∀ y, ∀ u ∈ emb y, u.oneCell' = true)
    (h63 : n + m ≤ maxLen) (hbytes : (n + m) * bytes ≤ 140737488355328) (hbase : base ≤ w.heap.size)
    (h : ∀ A1 c1 w1, OwnM sz emb w1 base e A1 (n + m) c1 (ys ++ zs) → w.grownBy w1 (blk A) → (blk A1 = blk A ∨ blk A1 = some w.heap.size) → K (a.put o.dst (.slice A1 (n + m) c1)) w1) :
    if Region.wanted o (yielded ops a.tmps) = true then Oper.wp P o a w K Q else E := by
  have hw : Region.wanted o (yielded ops a.tmps) = true := by simp [Region.wanted, hgd]
  rw [if_pos hw]
  refine wp_app w s x t ho base e z sz bytes ht hinfo hzs hsz A n c _ hs hown A' m c' (zs.flatMap emb) hx (by rw [flat_len hlen, hr.1]) ?_ ?_ h63 hbytes hbase ?_
  · intro hm
    obtain ⟨b, off, hA, hc⟩ := hr.2 hm
    refine ⟨b, off, hA, fun j u hu => ?_⟩
    have hj : j < m * sz := by have := (List.getElem?_eq_some_iff.1 hu).1; rwa [flat_len hlen, hr.1] at this
    have hd : j / sz < m := Nat.div_lt_of_lt_mul (by rw [Nat.mul_comm]; exact hj)
    have hm' : j % sz < sz := Nat.mod_lt _ hsz
    have ej : j = (j / sz) * sz + j % sz := by rw [Nat.mul_comm]; exact (Nat.div_add_mod j sz).symm
    have hdl : j / sz < zs.length := by rw [hr.1]; exact hd
    have hz' : zs[j / sz]? = some zs[j / sz] := List.getElem?_eq_getElem hdl
    rw [ej, flat_at hlen hz' hm'] at hu
    have := hc (j / sz) _ hz' (j % sz) u hu
    rw [Nat.add_assoc, ← ej] at this
    exact this
  · intro u hu
    obtain ⟨y, _, hy⟩ := List.mem_flatMap.1 hu
    exact h1 y u hy
  · intro A1 c1 w1 h2 h3 h4
    refine h A1 c1 w1 ?_ h3 h4
    unfold OwnM; rw [List.flatMap_append]; exact h2
theorem step_appN {α : Type} {sz : Nat} {emb : α → List Value} {ops : Array Oper} {o : Oper} {a : Act} {K : Act → World → Prop} {Q : Exit → Act → World → Prop} {E : Prop} (hgd : o.guard = none) (s x : Operand) (t : TypeId)
    (ho : o.op = .call { callee := .builtin .append, args := #[s, x], argTypes := #[t, t] })
    (hlen : ∀ y, (emb y).length = sz) (hsz : 0 < sz)
    (base : Nat) (e : TypeId) (z : Value) (bytes : Nat) (ht : P.underlying t = some (.slice e)) (hinfo : (P.info? e).map (fun i => (i.zero, i.size, i.bytes)) = some (some z, sz, bytes)) (hzs : z.cells.size = sz)
    (A : Option Addr) (n c : Nat) (ys : List α) (hs : a.eval s = .slice A n c) (hown : OwnM sz emb w base e A n c ys)
    (A' : Option Addr) (m c' : Nat) (zs : List α) (hx : a.eval x = .slice A' m c') (hr : RdM sz emb w A' m zs) (h1 : ∀ y, ∀ u ∈ emb y, u.oneCell' = true)
    (N : Nat) (hN : n + m = N) (ws : List α) (hws : ys ++ zs = ws) (h63 : n + m ≤ maxLen) (hbytes : (n + m) * bytes ≤ 140737488355328) (hbase : base ≤ w.heap.size)
    (h : ∀ A1 c1 w1, OwnM sz emb w1 base e A1 N c1 ws → w.grownBy w1 (blk A) → (blk A1 = blk A ∨ blk A1 = some w.heap.size) → K (a.put o.dst (.slice A1 N c1)) w1) :
    if Region.wanted o (yielded ops a.tmps) = true then Oper.wp P o a w K Q else E := by
  subst hN hws
  exact step_appM w hgd s x t ho hlen hsz base e z bytes ht hinfo hzs A n c ys hs hown A' m c' zs hx hr h1 h63 hbytes hbase h
end
/-- A world that is as W was, but for what is new. -/
structure Bw (W : World) where
  w : World
  h : Below W.heap.size W w
instance (W : World) : Inhabited (Bw W) := ⟨⟨W, Below.refl _ _⟩⟩
/-- A region that draws its order, whose operations only read, and whose callees may make memory of their own: walked once, in the text's order. -/
theorem wp_region_bw {P : Program} {id : Nat} {Q : Exit → Act → World → Prop} {a : Act} {w : World} {l : List Oper} (hm : P.follows .mixedOrders = true) (hB : Region.lexB .any l.toArray = true)
    (h : wpQuiet P l.toArray (fun w' => ∃ p : Bw w, w' = p.w) (fun a' => ∀ w', (∃ p : Bw w, w' = p.w) → Q .normal a' w') l a) : (Code.region id l.toArray true).wp P Q a w :=
  wp_region_quiet (C := fun w' => ∃ p : Bw w, w' = p.w) hm hB ⟨⟨w.drew, (Below.refl _ _).drew⟩, rfl⟩ (by simpa using h)
theorem bw_out {W w' : World} (h : ∃ p : Bw W, w' = p.w) : Below W.heap.size W w' := by obtain ⟨p, rfl⟩ := h; exact p.h
theorem bw_of {P : Program} {f : FuncId} {args : Array Value} {W : World} {p : Bw W} {v : Value} (h : Calls P f args p.w fun e w' => e = .returned v ∧ Below p.w.heap.size p.w w') :
    Calls P f args p.w fun e w'' => e = .returned v ∧ ∃ q : Bw W, w'' = q.w := h.mono fun _ _ ⟨he, hb⟩ => ⟨he, ⟨_, bstep p.h hb⟩, rfl⟩
theorem bw_quiet {P : Program} {f : FuncId} {args : Array Value} {W : World} {p : Bw W} {v : Value} (h : Calls P f args p.w fun e w' => e = .returned v ∧ ∃ m, w' = p.w.drewN m) :
    Calls P f args p.w fun e w'' => e = .returned v ∧ ∃ q : Bw W, w'' = q.w := h.mono fun _ _ ⟨he, m, hm⟩ => ⟨he, ⟨_, below_drewN p.h m⟩, hm⟩
end Go.Proofs.Ytiahpaakkijejaa
