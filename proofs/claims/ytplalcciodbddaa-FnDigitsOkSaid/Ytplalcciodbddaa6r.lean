/- Routes: how a slice of routes reads, the contracts of toRoute, toRouteS, szRoute, szRouteS, eqRoute, eqRouteS, and RoutesValid of the program and of the reference. Condition: at most 1048576 routes, each Begin of at most 1048576 bytes. -/
import Derived.Test.Ytplalcciodbddaa6d
import Derived.Test.YtplalcciodbddaaMemC
import Derived.Deep.RegionWith
namespace Go.Proofs.Ytplalcciodbddaa
open Go.RowKit
set_option linter.unusedSimpArgs false
set_option linter.unusedVariables false

structure Rt where
  b : ByteArray
  o : Int
def rtv (c : Rt) : List Value := [.string c.b, .int .i64 c.o]
theorem rtv_len (c : Rt) : (rtv c).length = 2 := rfl
abbrev RdR := RdM 2 rtv
abbrev OwnR := OwnM 2 rtv
abbrev rav (c : Rt) : Value := .agg #[.string c.b, .int .i64 c.o]
theorem RdR.at {w : World} {A : Option Addr} {n : Nat} {ys : List Rt} (h : RdR w A n ys) {k : Nat} (hk : k < n) :
    ∃ b off y, A = some ⟨b, off, none⟩ ∧ Hid (ys[k]? = some y) ∧ w.cell? ⟨b, off + k * 2, none⟩ = some (.string y.b) ∧ w.cell? ⟨b, off + k * 2 + 1, none⟩ = some (.int .i64 y.o) := by
  obtain ⟨b, off, y, hA, hy, hc⟩ := RdM.at h hk
  exact ⟨b, off, y, hA, hy, hc 0 _ rfl, hc 1 _ rfl⟩
theorem OwnR.at {w : World} {B : Nat} {e : TypeId} {A : Option Addr} {n c : Nat} {ys : List Rt} (h : OwnR w B e A n c ys) {k : Nat} (hk : k < n) :
    ∃ g y, A = some ⟨g, 0, none⟩ ∧ B ≤ g ∧ g < w.heap.size ∧ Hid (ys[k]? = some y) ∧ w.cell? ⟨g, k * 2, none⟩ = some (.string y.b) ∧ w.cell? ⟨g, k * 2 + 1, none⟩ = some (.int .i64 y.o) ∧ ∀ j, w.frozen? ⟨g, j, none⟩ = false := by
  obtain ⟨g, y, hA, hB, hg, hy, hc, hf⟩ := OwnM.at rtv_len (by omega) h hk
  exact ⟨g, y, hA, hB, hg, hy, hc 0 _ rfl, hc 1 _ rfl, hf⟩
theorem OwnR.rd {w : World} {B : Nat} {e : TypeId} {A : Option Addr} {n c : Nat} {ys : List Rt} (h : OwnR w B e A n c ys) : RdR w A n ys := OwnM.rd rtv_len (by omega) h
theorem OwnR.set {w : World} {B g : Nat} {e : TypeId} {n c : Nat} {ys : List Rt} (h : OwnR w B e (some ⟨g, 0, none⟩) n c ys) {k : Nat} {y : Rt} (hy : ys[k]? = some y) (z : Rt) :
    OwnR ((w.setCell ⟨g, k * 2, none⟩ (.string z.b)).setCell ⟨g, k * 2 + 1, none⟩ (.int .i64 z.o)) B e (some ⟨g, 0, none⟩) n c (ys.set k z) := by
  have hl : k < ys.length := (List.getElem?_eq_some_iff.1 hy).1
  have h1 := OwnM.set1 rtv_len (j := 0) (y' := ⟨z.b, y.o⟩) (u := .string z.b) h hy (by omega) rfl
  have e1 : (ys.set k ⟨z.b, y.o⟩)[k]? = some ⟨z.b, y.o⟩ := by simp [hl]
  have h2 := OwnM.set1 rtv_len (j := 1) (y' := z) (u := .int .i64 z.o) h1 e1 (by omega) rfl
  rw [List.set_set] at h2
  exact h2
theorem info_route : (Try.prog.info? 59).map (fun i => (i.zero, i.size, i.bytes)) = some (some (.agg #[.string ByteArray.empty, .int .i64 0]), 2, 24) := by kernel_rfl
theorem below_box (w : World) (o : Obj) : Below w.heap.size w (w.alloc o) := (Below.refl _ _).alloc (Nat.le_refl _) o

theorem toRoute_any (c : Rt) (w : World) : Calls Try.prog 54 #[rav c] w fun x w' => x = .returned (rav c) ∧ Below w.heap.size w w' := by
  go_enter Try.func54, Try.ntmps54
  go_wp2
  refine bodyPost_ret (v := rav c) (by simp [results, Try.results54, go_sem]) rfl ⟨rfl, ?_⟩
  exact ((below_box w _).alloc (by simp) _).alloc (by simp; omega) _

theorem toRouteS_any (A : Option Addr) (n c : Nat) (xs : List Rt) (w : World) (hx : RdR w A n xs) (hn : n ≤ 1048576) :
    Calls Try.prog 37 #[.slice A n c] w fun e w' => ∃ A' c', e = .returned (.slice A' n c') ∧ OwnR w' w.heap.size 59 A' n c' xs ∧ Below w.heap.size w w' := by
  have HL := hx.len
  have hmk := run_make_rowM (P := Try.prog) 42 59 (.agg #[.string ByteArray.empty, .int .i64 0]) 2 24 Try.underlying42 info_route .i64 .i64 n (by omega) (by omega)
  go_enter Try.func37, Try.ntmps37
  go_wp2
  clear hmk
  go_loopg [4] n (fun g i wr => ∃ k : Nat, k ≤ n ∧ g = n - k ∧ i = .int .i64 k ∧ OwnR wr w.heap.size 59 (some ⟨w.heap.size, 0, none⟩) n n (xs.take k ++ List.replicate (n - k) ⟨ByteArray.empty, 0⟩) ∧ Below w.heap.size w wr)
  case atStart => exact ⟨0, Nat.zero_le _, rfl, rfl, OwnM.made rtv_len (by omega) w (⟨ByteArray.empty, 0⟩ : Rt) n (by unfold maxLen; omega) _ (Nat.le_refl _), (Below.refl _ _).alloc (Nat.le_refl _) _⟩
  case round =>
    obtain ⟨k, hk, rfl, rfl, hown, hbel⟩ := hrel
    by_cases hlt : k < n
    · obtain ⟨b, off, x, rfl, HX, g0, g1⟩ := RdR.at (hx.below hbel (Nat.le_refl _)) hlt
      go_wp2_with fail
      refine (toRoute_any x _).mono ?_
      rintro e w1 ⟨rfl, b1⟩
      have hown1 := OwnM.below hown b1 (Nat.le_refl _)
      have hbel1 := bstep hbel b1
      clear hown g0 g1
      obtain ⟨g', y, hA, hB, hg', HY, gc0, gc1, gf⟩ := OwnR.at hown1 hlt
      injection hA with hA; injection hA with hA; subst hA
      go_wp2
      go_roundg (n - (k + 1))
      case rel => exact ⟨k + 1, by omega, rfl, by go_num, by rw [← set_fill HL.out hlt HX.out]; exact OwnR.set hown1 HY.out x, (hbel1.setCell (Nat.le_refl _) _).setCell (Nat.le_refl _) _⟩
      case measure => omega
    · go_wp2
      go_ret
      obtain rfl : k = n := by omega
      refine ⟨_, _, rfl, ?_, hbel⟩
      rw [Nat.sub_self, List.take_of_length_le (by rw [HL.out]; exact Nat.le_refl _)] at hown
      simpa using hown

def SzR (n : Nat) (xs : List Rt) (w : World) (e : Ending) (w' : World) : Prop := ∃ r : Int, e = .returned (.int .i64 r) ∧ Hid (0 ≤ r → n ≤ 1048576 ∧ ∀ x ∈ xs, x.b.size ≤ 1048576) ∧ Below w.heap.size w w'
theorem SzR.no {n : Nat} {xs : List Rt} {w w' : World} (h : Below w.heap.size w w') : SzR n xs w (.returned (.int .i64 (-1))) w' := ⟨-1, rfl, (fun h => absurd h (by omega)), h⟩
def SmallR (xs : List Rt) (k : Nat) : Prop := ∀ (i : Nat) x, i < k → xs[i]? = some x → x.b.size ≤ 1048576
theorem SmallR.succ {xs : List Rt} {k : Nat} {x : Rt} (h : SmallR xs k) (hx : xs[k]? = some x) (ho : x.b.size ≤ 1048576) : SmallR xs (k + 1) := by
  intro i y hi hy
  rcases (by omega : i < k ∨ i = k) with h1 | rfl
  · exact h i y h1 hy
  · rw [hx] at hy; injection hy with hy; subst hy; exact ho
theorem SmallR.all {xs : List Rt} (h : SmallR xs xs.length) : ∀ x ∈ xs, x.b.size ≤ 1048576 := by
  intro x hx
  obtain ⟨i, hi⟩ := List.getElem?_of_mem hx
  exact h i x (List.getElem?_eq_some_iff.1 hi).1 hi
theorem szRoute_any (c : Rt) (L : Int) (w : World) (h0 : 0 ≤ L) (h1 : L ≤ 1048576) (hs : c.b.size ≤ 9223372036854775807) :
    Calls Try.prog 53 #[rav c, .int .i64 L] w fun e w' => e = .returned (.int .i64 (if (c.b.size : Int) ≤ L then L - c.b.size else -1)) ∧ Below w.heap.size w w' := by
  by_cases h : (c.b.size : Int) ≤ L
  · rw [if_pos h]
    go_enter Try.func53, Try.ntmps53
    go_wp2
    go_ret
    exact ⟨rfl, below_box w _⟩
  · rw [if_neg h]
    go_enter Try.func53, Try.ntmps53
    go_wp2
    go_ret
    exact ⟨rfl, below_box w _⟩
theorem szRouteS_any (A : Option Addr) (n c : Nat) (xs : List Rt) (w : World) (hx : RdR w A n xs) (hn : n ≤ maxLen) (hs : ∀ x ∈ xs, x.b.size ≤ maxLen) :
    Calls Try.prog 35 #[.slice A n c, .int .i64 1048576] w (SzR n xs w) := by
  have HL := hx.len
  have HS := Lib.hid hs; clear hs
  unfold maxLen at hn
  by_cases hbig : n ≤ 1048576
  · have hz : decide ((1048576 : Int) - (n : Int) < 0) = false := by simp; omega
    go_enter Try.func35, Try.ntmps35
    go_wp2
    go_loopg [1, 5] n (fun g l i wr => ∃ (k : Nat) (L : Int), k ≤ n ∧ g = n - k ∧ i = .int .i64 k ∧ l = .int .i64 L ∧ 0 ≤ L ∧ L ≤ 1048576 ∧ SmallR xs k ∧ Below w.heap.size w wr)
    case atStart => exact ⟨0, 1048576 - (n : Int), Nat.zero_le _, rfl, rfl, rfl, by omega, by omega, (fun i _ h => absurd h (Nat.not_lt_zero _)), Below.refl _ _⟩
    case round =>
      obtain ⟨k, L, hk, rfl, rfl, rfl, hL0, hL1, hall, hbel⟩ := hrel
      by_cases hlt : k < n
      · obtain ⟨b, off, x, rfl, HX, g0, g1⟩ := RdR.at (hx.below hbel (Nat.le_refl _)) hlt
        have hxs : x.b.size ≤ 9223372036854775807 := by have := HS.out x (List.mem_of_getElem? HX.out); unfold maxLen at this; omega
        go_wp2_with fail
        refine (szRoute_any x L _ hL0 hL1 hxs).mono ?_
        rintro e w1 ⟨rfl, b1⟩
        by_cases h1 : (x.b.size : Int) ≤ L
        · rw [if_pos h1]
          go_wp2
          go_roundg (n - (k + 1))
          case rel => exact ⟨k + 1, L - (x.b.size : Int), by omega, rfl, by go_num, rfl, by omega, by omega, hall.succ HX.out (by omega), bstep hbel b1⟩
          case measure => omega
        · rw [if_neg h1]
          go_wp2
          go_ret
          exact SzR.no (bstep hbel b1)
      · go_wp2
        go_ret
        obtain rfl : k = n := by omega
        exact ⟨L, rfl, (fun _ => ⟨by omega, SmallR.all (by rw [HL.out]; exact hall)⟩), hbel⟩
  · go_enter Try.func35, Try.ntmps35
    go_wp2
    go_ret
    exact SzR.no (Below.refl _ _)

theorem eqRoute_same (x : Rt) (w : World) : Calls Try.prog 55 #[rav x, rav x] w fun e w' => e = .returned (.bool true) ∧ Below w.heap.size w w' := by
  go_enter Try.func55, Try.ntmps55
  go_wp2
  go_ret
  exact ⟨rfl, (below_box w _).alloc (by simp) _⟩
/-- eqRouteS of two slices that read as one list answers true. -/
theorem eqRouteS_same (A A' : Option Addr) (n c c' : Nat) (xs : List Rt) (w : World) (hx : RdR w A n xs) (hy : RdR w A' n xs) (hn : n ≤ 1048576) :
    Calls Try.prog 39 #[.slice A n c, .slice A' n c'] w fun e w' => e = .returned (.bool true) ∧ Below w.heap.size w w' := by
  have HL := hx.len
  go_enter Try.func39, Try.ntmps39
  go_wp2
  go_loopg [5] n (fun g i wr => ∃ k : Nat, k ≤ n ∧ g = n - k ∧ i = .int .i64 k ∧ Below w.heap.size w wr)
  case atStart => exact ⟨0, Nat.zero_le _, rfl, rfl, Below.refl _ _⟩
  case round =>
    obtain ⟨k, hk, rfl, rfl, hbel⟩ := hrel
    by_cases hlt : k < n
    · obtain ⟨b, off, x, rfl, HX, g0, g1⟩ := RdR.at (hx.below hbel (Nat.le_refl _)) hlt
      obtain ⟨b', off', y, rfl, HY, g0', g1'⟩ := RdR.at (hy.below hbel (Nat.le_refl _)) hlt
      obtain rfl : x = y := by have := HX.out; rw [HY.out] at this; injection this with this; exact this.symm
      go_wp2
      go_region_with (go_at_call 55; refine (eqRoute_same _ _).mono ?_; rintro e w1 ⟨rfl, b1⟩)
      all_goals
        go_wp2
        go_roundg (n - (k + 1))
        case rel => exact ⟨k + 1, by omega, rfl, by go_num, bstep hbel.drew b1⟩
        case measure => omega
    · go_wp2
      go_ret
      exact ⟨rfl, hbel⟩
end Go.Proofs.Ytplalcciodbddaa
