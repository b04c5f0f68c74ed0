/- The reader of a code: l20Open, pick and odd. What pick answers is a number below its argument; nothing else is said of it. Condition: fewer than 1000000 picks so far. -/
import Derived.Test.YtiahpaakkijejaaCom
import Derived.Test.YtiahpaakkijejaaMem2
import Derived.Deep.RegionWith
namespace Go.Proofs.Ytiahpaakkijejaa
open Go.RowKit
set_option linter.unusedSimpArgs false
set_option linter.unusedVariables false
abbrev uv : Int → Value := Value.int .u8
theorem bytes_wf {zs : List Int} (h : ∀ z ∈ zs, (Lit.int .u8 z).wf = true) : ∀ z ∈ zs, 0 ≤ z ∧ z ≤ 255 := by
  intro z hz
  have := h z hz
  simp [Lit.wf, IntKind.min, IntKind.max, IntKind.signed, IntKind.bits] at this
  omega
/-- The reader at block rb has read p bytes. -/
def RdrAt (w : World) (rb : Nat) (p : Nat) : Prop :=
  ∃ A nb cb zs, w.heap[rb]? = some (.cells #[.slice A nb cb, .int .i64 p] 61 (0, 0)) ∧ nb ≤ 2000 ∧ RdL uv w A nb zs ∧ (∀ z ∈ zs, 0 ≤ z ∧ z ≤ 255) ∧ (0 < nb → ∀ ad, A = some ad → ad.block < rb)

theorem i64_xor_nat (a b : Nat) (ha : a < 1099511627776) (hb : b < 1099511627776) : bits .xor .i64 (a : Int) (b : Int) = ((a ^^^ b : Nat) : Int) := by
  have hx : a ^^^ b < 2 ^ 40 := Nat.xor_lt_two_pow (by omega) (by omega)
  show IntKind.i64.wrap ((BitVec.ofInt 64 (a : Int) ^^^ BitVec.ofInt 64 (b : Int)).toNat : Int) = _
  rw [BitVec.toNat_xor, BitVec.ofInt_natCast, BitVec.ofInt_natCast, BitVec.toNat_ofNat, BitVec.toNat_ofNat, Nat.mod_eq_of_lt (by omega), Nat.mod_eq_of_lt (by omega), IntKind.wrap_i64]
  omega
theorem xor_pos (X : Int) (h0 : 0 ≤ X) (h1 : X ≤ 100000000) : 0 ≤ bits .xor .i64 X (X / 64) := by
  obtain ⟨A, rfl⟩ := Int.eq_ofNat_of_zero_le h0
  rw [show ((A : Int) / 64) = ((A / 64 : Nat) : Int) by omega, i64_xor_nat A (A / 64) (by omega) (by omega)]
  omega
/-- What pick answers. -/
def Picked (w : World) (rb p : Nat) (n : Int) (e : Ending) (w' : World) : Prop :=
  ∃ r : Int, e = .returned (.int .i64 r) ∧ Hid (0 ≤ r ∧ (1 ≤ n → r < n) ∧ (n < 1 → r = 0)) ∧ ∃ m, w' = (w.setCell ⟨rb, 1, none⟩ (.int .i64 ((p : Int) + 1))).drewN m
theorem pick_any (w : World) (rb p : Nat) (n : Int) (hr : RdrAt w rb p) (hp : p ≤ 1000000) (hn : n ≤ 1000000) (hn' : -1000000 ≤ n) :
    Calls Try.prog 46 #[.pointer (some ⟨rb, 0, none⟩), .int .i64 n] w (Picked w rb p n) := by
  obtain ⟨A, nb, cb, zs, hb, hnb, hx, hz, hne⟩ := hr
  have c0 : w.cell? ⟨rb, 0, none⟩ = some (.slice A nb cb) := by rw [cell_of_row w rb 0 _ _ _ hb]; rfl
  have c1 : w.cell? ⟨rb, 1, none⟩ = some (.int .i64 p) := by rw [cell_of_row w rb 1 _ _ _ hb]; rfl
  have f1 : w.frozen? ⟨rb, 1, none⟩ = false := by simp [World.frozen?, hb]
  have HZ := Lib.hid hz; clear hz
  have HB := Lib.hid hb; clear hb
  have HNE := Lib.hid hne; clear hne
  by_cases hn1 : n < 1
  · go_enter Try.func46, Try.ntmps46
    go_wp2
    go_ret
    exact ⟨0, rfl, ⟨by omega, fun h => by omega, fun _ => rfl⟩, 0, rfl⟩
  · have hn1z : decide (n < 1) = false := by simp; omega
    by_cases hnb0 : nb = 0
    · subst hnb0
      go_enter Try.func46, Try.ntmps46
      go_wp2
      go_ret
      exact ⟨0, rfl, ⟨by omega, fun h => by omega, fun _ => rfl⟩, 0, rfl⟩
    · have hnbz : ((nb : Int) == 0) = false := by rw [beq_eq_false_iff_ne]; omega
      by_cases hlt : p < nb
      · have hltz : decide ((p : Int) < (nb : Int)) = true := by simp; omega
        obtain ⟨b, off, z1, rfl, HZ1, g1⟩ := hx.at hlt
        have hbr : b < rb := HNE.out (by omega) _ rfl
        have G1 : (w.setCell ⟨rb, 1, none⟩ (.int .i64 ((p : Int) + 1))).cell? ⟨b, off + p, none⟩ = some (uv z1) := by rw [World.cell?_setCell_other _ _ _ _ (fun e => by injection e with e; omega)]; exact g1
        clear g1
        have hz1 := HZ.out z1 (List.mem_of_getElem? HZ1.out)
        obtain ⟨hz1a, hz1b⟩ := hz1
        have r1 : 0 ≤ z1 % n := Int.emod_nonneg _ (by omega)
        have r2 : z1 % n < n := Int.emod_lt_of_pos _ (by omega)
        have HR := Lib.hid (And.intro r1 r2); clear r1 r2
        go_enter Try.func46, Try.ntmps46
        go_wp2
        go_ret
        exact ⟨z1 % n, rfl, ⟨HR.out.1, fun _ => HR.out.2, fun h => by omega⟩, 0, rfl⟩
      · have hltz : decide ((p : Int) < (nb : Int)) = false := by simp; omega
        obtain ⟨b, off, z1, rfl, HZ1, g1⟩ := hx.at (k := p % nb) (Nat.mod_lt _ (by omega))
        obtain ⟨b', off', z2, hA, HZ2, g2⟩ := hx.at (k := (p * 7 + 3) % nb) (Nat.mod_lt _ (by omega))
        injection hA with hA; injection hA with hA1 hA2; subst hA1 hA2
        go_enter Try.func46, Try.ntmps46
        have hbr : b < rb := HNE.out (by omega) _ rfl
        have G1 : (w.setCell ⟨rb, 1, none⟩ (.int .i64 ((p : Int) + 1))).cell? ⟨b, off + p % nb, none⟩ = some (uv z1) := by rw [World.cell?_setCell_other _ _ _ _ (fun e => by injection e with e; omega)]; exact g1
        have G2 : (w.setCell ⟨rb, 1, none⟩ (.int .i64 ((p : Int) + 1))).cell? ⟨b, off + (p * 7 + 3) % nb, none⟩ = some (uv z2) := by rw [World.cell?_setCell_other _ _ _ _ (fun e => by injection e with e; omega)]; exact g2
        clear g1 g2
        have hz1 := HZ.out z1 (List.mem_of_getElem? HZ1.out)
        have hz2 := HZ.out z2 (List.mem_of_getElem? HZ2.out)
        obtain ⟨hz1a, hz1b⟩ := hz1
        obtain ⟨hz2a, hz2b⟩ := hz2
        have m1 : (0 : Int) ≤ (p : Int) % (nb : Int) := Int.emod_nonneg _ (by omega)
        have m2 : (p : Int) % (nb : Int) < (nb : Int) := Int.emod_lt_of_pos _ (by omega)
        have m3 : ((p : Int) % (nb : Int)).toNat = p % nb := by rw [← Int.natCast_emod, Int.toNat_natCast]
        have n1 : (0 : Int) ≤ ((p : Int) * 7 + 3) % (nb : Int) := Int.emod_nonneg _ (by omega)
        have n2 : ((p : Int) * 7 + 3) % (nb : Int) < (nb : Int) := Int.emod_lt_of_pos _ (by omega)
        have n3 : (((p : Int) * 7 + 3) % (nb : Int)).toNat = (p * 7 + 3) % nb := by
          rw [show ((p : Int) * 7 + 3) = ((p * 7 + 3 : Nat) : Int) by omega, ← Int.natCast_emod, Int.toNat_natCast]
        have q1 : (0 : Int) ≤ (p : Int) / (nb : Int) := Int.ediv_nonneg (by omega) (by omega)
        have q2 : (p : Int) / (nb : Int) ≤ 1000000 := by have := Int.ediv_le_self (a := (p : Int)) (nb : Int) (by omega); omega
        go_wp2
        go_quiet (fail)
        clear m1 m2 m3 n1 n2 n3 G1 G2
        obtain ⟨X, HX⟩ : ∃ X : Int, Hid (X = z1 * 131 + z2 * 1117 + (p : Int) * 29 + (p : Int) / (nb : Int) * 53) := ⟨_, rfl⟩
        have hX0 : 0 ≤ X := by rw [HX.out]; omega
        have hX1 : X ≤ 100000000 := by rw [HX.out]; omega
        rw [← HX.out]
        go_wp2
        go_ret
        have x0 := xor_pos X hX0 hX1
        have hm : (bits .xor .i64 X (X / 64)).tmod n = (bits .xor .i64 X (X / 64)) % n := Int.tmod_eq_emod_of_nonneg x0
        refine ⟨_, rfl, ⟨?_, fun _ => ?_, fun h => by omega⟩, _, rfl⟩
        · show 0 ≤ (bits .xor .i64 X (X / 64)).tmod n
          rw [hm]; exact Int.emod_nonneg _ (by omega)
        · show (bits .xor .i64 X (X / 64)).tmod n < n
          rw [hm]; exact Int.emod_lt_of_pos _ (by omega)

theorem RdrAt.lt {w : World} {rb p : Nat} (h : RdrAt w rb p) : rb < w.heap.size := by
  obtain ⟨A, nb, cb, zs, hb, _⟩ := h
  rcases Nat.lt_or_ge rb w.heap.size with h | h
  · exact h
  · rw [Array.getElem?_eq_none h] at hb; cases hb
/-- Behind a pick the reader has read one byte more. -/
theorem RdrAt.picked {w : World} {rb p m : Nat} (h : RdrAt w rb p) : RdrAt ((w.setCell ⟨rb, 1, none⟩ (.int .i64 ((p : Int) + 1))).drewN m) rb (p + 1) := by
  obtain ⟨A, nb, cb, zs, hb, hnb, hx, hz, hne⟩ := h
  refine ⟨A, nb, cb, zs, ?_, hnb, ⟨hx.1, fun hn => ?_⟩, hz, hne⟩
  · show (w.setCell ⟨rb, 1, none⟩ (.int .i64 ((p : Int) + 1))).heap[rb]? = _
    rw [heap_setCell_same w rb 1 _ _ _ hb]
    rfl
  · obtain ⟨b, off, hA, hc⟩ := hx.2 hn
    refine ⟨b, off, hA, fun k y hy => ?_⟩
    have := hne hn _ hA
    show (w.setCell ⟨rb, 1, none⟩ (.int .i64 ((p : Int) + 1))).cell? _ = _
    rw [World.cell?_setCell_other _ _ _ _ (fun e => by injection e with e; simp at this; omega)]
    exact hc k y hy
theorem grown_picked (w : World) (rb : Nat) (v : Value) (m : Nat) : w.grownBy ((w.setCell ⟨rb, 1, none⟩ v).drewN m) (some rb) :=
  ⟨rfl, rfl, rfl, by simp [World.setCell], fun k _ hk => by
    show (w.setCell ⟨rb, 1, none⟩ v).heap[k]? = _
    exact Below.heap_setCell w ⟨rb, 1, none⟩ v k (fun e => hk (by rw [e]))⟩

/-- What odd answers: some truth; one byte more is read. -/
def Odded (w : World) (rb p : Nat) (e : Ending) (w' : World) : Prop := ∃ b : Bool, e = .returned (.bool b) ∧ ∃ m, w' = (w.setCell ⟨rb, 1, none⟩ (.int .i64 ((p : Int) + 1))).drewN m
theorem odd_any (w : World) (rb p : Nat) (n : Int) (hr : RdrAt w rb p) (hp : p ≤ 1000000) (hn : n ≤ 1000000) (hn' : 1 ≤ n) :
    Calls Try.prog 68 #[.pointer (some ⟨rb, 0, none⟩), .int .i64 n] w (Odded w rb p) := by
  have hz : decide (0 < n) = true := by simp; omega
  go_enter Try.func68, Try.ntmps68
  go_wp2_with fail
  refine (pick_any w rb p n hr hp hn (by omega)).mono ?_
  rintro e w1 ⟨r, rfl, hrr, m, rfl⟩
  clear hrr
  go_wp2
  go_ret
  exact ⟨_, rfl, _, rfl⟩
theorem gundrew {a b : World} {row : Option Nat} (h : a.drew.grownBy b row) : a.grownBy b row := ⟨h.os, h.tape, h.output, h.size, h.block⟩
/-- The reader at block rb has read at most P bytes. -/
def Rdr (w : World) (rb P : Nat) : Prop := ∃ p, p ≤ P ∧ RdrAt w rb p
theorem Rdr.lt {w : World} {rb P : Nat} (h : Rdr w rb P) : rb < w.heap.size := by obtain ⟨p, _, h⟩ := h; exact h.lt
theorem Rdr.more {w : World} {rb P Q : Nat} (h : Rdr w rb P) (hq : P ≤ Q) : Rdr w rb Q := by obtain ⟨p, hp, h⟩ := h; exact ⟨p, by omega, h⟩
theorem Rdr.drewN {w : World} {rb P : Nat} (h : Rdr w rb P) (m : Nat) : Rdr (w.drewN m) rb P := h
theorem Rdr.drew {w : World} {rb P : Nat} (h : Rdr w rb P) : Rdr w.drew rb P := h
/-- What lies below the reader's block, and the block itself, are as they were. -/
theorem RdrAt.keep {w w' : World} {rb p : Nat} (h : RdrAt w rb p) (hk : ∀ k, k ≤ rb → w'.heap[k]? = w.heap[k]?) : RdrAt w' rb p := by
  obtain ⟨A, nb, cb, zs, hb, hnb, hx, hz, hne⟩ := h
  refine ⟨A, nb, cb, zs, (hk rb (Nat.le_refl _)).trans hb, hnb, ⟨hx.1, fun hn => ?_⟩, hz, hne⟩
  obtain ⟨b, off, hA, hc⟩ := hx.2 hn
  refine ⟨b, off, hA, fun k y hy => ?_⟩
  have := hne hn _ hA
  exact (World.cell?_of_block (hk b (by simp at this; omega))).trans (hc k y hy)
theorem Rdr.keep {w w' : World} {rb P : Nat} (h : Rdr w rb P) (hk : ∀ k, k ≤ rb → w'.heap[k]? = w.heap[k]?) : Rdr w' rb P := by obtain ⟨p, hp, h⟩ := h; exact ⟨p, hp, h.keep hk⟩
theorem Rdr.below {w w' : World} {rb P : Nat} (h : Rdr w rb P) (hb : Below w.heap.size w w') : Rdr w' rb P := h.keep fun k hk => hb.block k (by have := h.lt; omega)
theorem Rdr.alloc {w : World} {rb P : Nat} (h : Rdr w rb P) (o : Obj) : Rdr (w.alloc o) rb P := h.keep fun k hk => Below.heap_alloc w o k (by have := h.lt; omega)
theorem Rdr.set {w : World} {rb P : Nat} (h : Rdr w rb P) (p : Addr) (u : Value) (hp : rb < p.block) : Rdr (w.setCell p u) rb P := h.keep fun k hk => Below.heap_setCell w p u k (by omega)
theorem Rdr.grown {w w' : World} {rb P : Nat} {row : Option Nat} (h : Rdr w rb P) (hg : w.grownBy w' row) (hr : ∀ g, row = some g → rb < g) : Rdr w' rb P :=
  h.keep fun k hk => hg.block k (by have := h.lt; omega) (fun e => by have := hr k e.symm; omega)
/-- What pick answers: a number below n. -/
def PickR (w : World) (rb P : Nat) (n : Int) (e : Ending) (w' : World) : Prop :=
  ∃ r : Int, e = .returned (.int .i64 r) ∧ Hid (0 ≤ r ∧ (1 ≤ n → r < n) ∧ (n < 1 → r = 0)) ∧ Rdr w' rb (P + 1) ∧ w.grownBy w' (some rb)
theorem pick_le {w : World} {rb P : Nat} (n : Int) (hr : Rdr w rb P) (hP : P ≤ 1000000) (hn : n ≤ 1000000) (hn' : -1000000 ≤ n) :
    Calls Try.prog 46 #[.pointer (some ⟨rb, 0, none⟩), .int .i64 n] w (PickR w rb P n) := by
  obtain ⟨p, hp, hr⟩ := hr
  refine (pick_any w rb p n hr (by omega) hn hn').mono ?_
  rintro e w1 ⟨r, rfl, hb, m, rfl⟩
  exact ⟨r, rfl, hb, ⟨p + 1, by omega, hr.picked⟩, grown_picked _ _ _ _⟩
/-- A pick among so many that there is one. -/
def PickN (w : World) (rb P : Nat) (n : Int) (e : Ending) (w' : World) : Prop :=
  ∃ r : Nat, e = .returned (.int .i64 r) ∧ Hid ((r : Int) < n) ∧ Rdr w' rb (P + 1) ∧ w.grownBy w' (some rb)
theorem pick_n {w : World} {rb P : Nat} (n : Int) (hr : Rdr w rb P) (hP : P ≤ 1000000) (hn : n ≤ 1000000) (hn' : 1 ≤ n) :
    Calls Try.prog 46 #[.pointer (some ⟨rb, 0, none⟩), .int .i64 n] w (PickN w rb P n) := by
  refine (pick_le n hr hP hn (by omega)).mono ?_
  rintro e w1 ⟨r, rfl, hb, h1, h2⟩
  obtain ⟨k, rfl⟩ := Int.eq_ofNat_of_zero_le hb.out.1
  exact ⟨k, rfl, hb.out.2.1 hn', h1, h2⟩
/-- A pick of one of the numbers of a slice that was just laid. -/
def PickLit {α : Type} (emb : α → Value) (w : World) (g rb P : Nat) (N : Int) (ys : List α) (e : Ending) (w' : World) : Prop :=
  ∃ (r : Nat) (y : α), e = .returned (.int .i64 r) ∧ Hid (y ∈ ys) ∧ (r : Int) < N ∧ w'.cell? ⟨g, r, none⟩ = some (emb y) ∧ Rdr w' rb (P + 1) ∧ w.grownBy w' (some rb)
theorem pick_lit {α : Type} {emb : α → Value} {w : World} {rb P : Nat} {T : TypeId} {cs : Array Value} (ys : List α) (N : Int) (hcs : cs = (ys.map emb).toArray) (hN : N = ys.length) (h0 : 0 < ys.length) (h1 : ys.length ≤ 1000) (hr : Rdr w rb P) (hP : P ≤ 1000000) :
    Calls Try.prog 46 #[.pointer (some ⟨rb, 0, none⟩), .int .i64 N] (w.alloc (.cells cs T)) (PickLit emb (w.alloc (.cells cs T)) w.heap.size rb P N ys) := by
  subst hcs
  refine (pick_n N (hr.alloc _) hP (by omega) (by omega)).mono ?_
  rintro e w1 ⟨r, rfl, hb, h1, h2⟩
  have hl : r < ys.length := by have := hb.out; omega
  have hlt := hr.lt
  refine ⟨r, ys[r], rfl, List.getElem_mem hl, hb.out, ?_, h1, h2⟩
  refine h2.cell ?_ (by simp; omega)
  simp [hl]
def OddR (w : World) (rb P : Nat) (e : Ending) (w' : World) : Prop := ∃ b : Bool, e = .returned (.bool b) ∧ Rdr w' rb (P + 1) ∧ w.grownBy w' (some rb)
theorem odd_le {w : World} {rb P : Nat} (n : Int) (hr : Rdr w rb P) (hP : P ≤ 1000000) (hn : n ≤ 1000000) (hn' : 1 ≤ n) :
    Calls Try.prog 68 #[.pointer (some ⟨rb, 0, none⟩), .int .i64 n] w (OddR w rb P) := by
  obtain ⟨p, hp, hr⟩ := hr
  refine (odd_any w rb p n hr (by omega) hn hn').mono ?_
  rintro e w1 ⟨r, rfl, m, rfl⟩
  exact ⟨r, rfl, ⟨p + 1, by omega, hr.picked⟩, grown_picked _ _ _ _⟩
/-- What l20Open answers: a reader that has read nothing, in a block of its own. -/
def Opened (w : World) (e : Ending) (w' : World) : Prop := ∃ rb, e = .returned (.pointer (some ⟨rb, 0, none⟩)) ∧ w.heap.size ≤ rb ∧ Rdr w' rb 0 ∧ Below w.heap.size w w'
theorem open_mk {w : World} {A : Option Addr} {n c : Nat} {zs : List Int} (hx : RdL uv w A n zs) (hz : ∀ z ∈ zs, 0 ≤ z ∧ z ≤ 255) (hn : n ≤ 2000) :
    Opened w (.returned (.pointer (some ⟨w.heap.size, 0, none⟩))) (w.alloc (.cells #[.slice A n c, .int .i64 0] 61)) := by
  refine ⟨w.heap.size, rfl, Nat.le_refl _, ⟨0, Nat.le_refl _, A, n, c, zs, heap_alloc_new w _, hn, hx.below ((Below.refl _ _).alloc (Nat.le_refl _) _) (Nat.le_refl _), hz, fun h0 ad hA => ?_⟩, (Below.refl _ _).alloc (Nat.le_refl _) _⟩
  obtain ⟨b, off, hA', hc⟩ := hx.2 h0
  rw [hA] at hA'; injection hA' with hA'; subst hA'
  have hl : 0 < zs.length := by rw [hx.1]; exact h0
  exact World.block_lt_of_cell? _ _ (hc 0 _ (List.getElem?_eq_getElem hl))
theorem l20Open_any (A : Option Addr) (n c : Nat) (zs : List Int) (w : World) (hx : RdL uv w A n zs) (hz : ∀ z ∈ zs, 0 ≤ z ∧ z ≤ 255) (hc : n ≤ c) (hn : n ≤ 1048576) :
    Calls Try.prog 44 #[.slice A n c] w (Opened w) := by
  have HZ := Lib.hid hz; clear hz
  by_cases hbig : 2000 < n
  · have hx' := RdL.take hx (k := 2000) (by omega)
    go_enter Try.func44, Try.ntmps44
    go_wp2
    go_ret
    exact open_mk hx' (fun z hm => HZ.out z (List.mem_of_mem_take hm)) (Nat.le_refl _)
  · go_enter Try.func44, Try.ntmps44
    go_wp2
    go_ret
    exact open_mk hx HZ.out (by omega)
/-- What came out of a drawn code: the world as it was, but for what is new. -/
theorem drawn_below {B : Nat} {w w0 w1 : World} {rb : Nat} (hb : Below B w w0) (hB : B ≤ w0.heap.size) (hr : B ≤ rb) (hg : w0.grownBy w1 (some rb)) : Below B w w1 :=
  bgrown hb hg hB (fun g e => by injection e with e; omega)
end Go.Proofs.Ytiahpaakkijejaa
