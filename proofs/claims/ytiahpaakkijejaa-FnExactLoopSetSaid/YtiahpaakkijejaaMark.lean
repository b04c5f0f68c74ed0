/- markXS writes marks into a list of the call's own; heldXS tells whether they are still there. Condition: at most 2000000 elements. -/
import Derived.Test.YtiahpaakkijejaaCom
import Derived.Test.YtiahpaakkijejaaMem2
namespace Go.Proofs.Ytiahpaakkijejaa
open Go.RowKit
set_option linter.unusedSimpArgs false
set_option linter.unusedVariables false
/-- The first k of the elements are marks. -/
def MarkTo {α : Type} (f : Nat → α) (k n : Nat) (zs : List α) : Prop := zs.length = n ∧ ∀ j : Nat, j < k → zs[j]? = some (f j)
theorem MarkTo.succ {α : Type} {f : Nat → α} {k n : Nat} {zs : List α} (h : MarkTo f k n zs) (hk : k < n) : MarkTo f (k + 1) n (zs.set k (f k)) := by
  refine ⟨by simp [h.1], fun j hj => ?_⟩
  rw [List.getElem?_set]
  by_cases e : k = j
  · subst e; rw [if_pos rfl, if_pos (by rw [h.1]; exact hk)]
  · rw [if_neg e]; exact h.2 j (by omega)
def mkIntS (K : Int) (j : Nat) : Int := K + j
theorem markIntS_any (A : Option Addr) (n c : Nat) (xs : List Int) (K : Int) (B : Nat) (w : World) (h : OwnL iv w B 3 A n c xs) (hn : n ≤ 2000000) (hK : 0 ≤ K) (hK' : K ≤ 1000000000) :
    Calls Try.prog 25 #[.slice A n c, .int .i64 K] w fun e w' => ∃ zs, e = .returned (.int .i64 (K + n)) ∧ Hid (MarkTo (mkIntS K) n n zs) ∧ OwnL iv w' B 3 A n c zs ∧ w.grownBy w' (blk A) := by
  have HL := h.len
  go_enter Try.func25, Try.ntmps25
  go_wp2
  go_loopg [1, 5] n (fun g s i wr => ∃ (k : Nat) (zs : List Int), k ≤ n ∧ g = n - k ∧ i = .int .i64 k ∧ s = .int .i64 (K + k) ∧ Hid (MarkTo (mkIntS K) k n zs) ∧ OwnL iv wr B 3 A n c zs ∧ w.grownBy wr (blk A))
  case atStart => exact ⟨0, xs, Nat.zero_le _, rfl, rfl, by simp, ⟨HL.out, fun j hj => absurd hj (Nat.not_lt_zero _)⟩, h, World.grownBy.refl _ _⟩
  case round =>
    obtain ⟨k, zs, hk, rfl, rfl, rfl, HM, hown, hg⟩ := hrel
    by_cases hlt : k < n
    · obtain ⟨g', y, rfl, hB, hg', HY, gc, gf⟩ := hown.at hlt
      go_wp2
      go_roundg (n - (k + 1))
      case rel => exact ⟨k + 1, _, by omega, rfl, by go_num, by go_num, HM.out.succ hlt, by first | exact hown.set k (mkIntS K k) | (have := hown.set k (mkIntS K k); simpa [mkIntS] using this), gset (g := g') (p := ⟨g', k, none⟩) hg (.inl rfl) _⟩
      case measure => omega
    · go_wp2
      go_ret
      obtain rfl : k = n := by omega
      exact ⟨zs, rfl, HM.out, hown, hg⟩
theorem heldIntS_any (A : Option Addr) (n c : Nat) (zs : List Int) (K : Int) (w : World) (h : RdL iv w A n zs) (hm : MarkTo (mkIntS K) n n zs) (hn : n ≤ 2000000) (hK : 0 ≤ K) (hK' : K ≤ 1000000000) :
    Calls Try.prog 26 #[.slice A n c, .int .i64 K] w fun e w' => e = .returned (.int .i64 (K + n)) ∧ ∃ m, w' = w.drewN m := by
  have HM := Lib.hid hm; clear hm
  go_enter Try.func26, Try.ntmps26
  go_wp2
  go_loopg [1, 5] n (fun g s i wr => ∃ k m : Nat, k ≤ n ∧ g = n - k ∧ i = .int .i64 k ∧ s = .int .i64 (K + k) ∧ wr = w.drewN m)
  case atStart => exact ⟨0, 0, Nat.zero_le _, rfl, rfl, by simp, rfl⟩
  case round =>
    obtain ⟨k, m, hk, rfl, rfl, rfl, rfl⟩ := hrel
    by_cases hlt : k < n
    · obtain ⟨b, off, x, rfl, HX, g⟩ := h.at hlt
      have hx : x = mkIntS K k := by have := HM.out.2 k hlt; rw [HX.out] at this; injection this
      subst hx
      clear HX
      unfold mkIntS at g
      go_wp2
      go_roundg (n - (k + 1))
      case rel => exact ⟨k + 1, m, by omega, rfl, by go_num, by go_num, rfl⟩
      case measure => omega
    · go_wp2
      go_ret
      obtain rfl : k = n := by omega
      exact ⟨rfl, m, rfl⟩
def mkBoolS (K : Int) (j : Nat) : Bool := (K + j) % 3 == 0
theorem markBoolS_any (A : Option Addr) (n c : Nat) (xs : List Bool) (K : Int) (B : Nat) (w : World) (h : OwnL bv w B 4 A n c xs) (hn : n ≤ 2000000) (hK : 0 ≤ K) (hK' : K ≤ 1000000000) :
    Calls Try.prog 24 #[.slice A n c, .int .i64 K] w fun e w' => ∃ zs, e = .returned (.int .i64 (K + n)) ∧ Hid (MarkTo (mkBoolS K) n n zs) ∧ OwnL bv w' B 4 A n c zs ∧ w.grownBy w' (blk A) := by
  have HL := h.len
  go_enter Try.func24, Try.ntmps24
  go_wp2
  go_loopg [1, 5] n (fun g s i wr => ∃ (k : Nat) (zs : List Bool), k ≤ n ∧ g = n - k ∧ i = .int .i64 k ∧ s = .int .i64 (K + k) ∧ Hid (MarkTo (mkBoolS K) k n zs) ∧ OwnL bv wr B 4 A n c zs ∧ w.grownBy wr (blk A))
  case atStart => exact ⟨0, xs, Nat.zero_le _, rfl, rfl, by simp, ⟨HL.out, fun j hj => absurd hj (Nat.not_lt_zero _)⟩, h, World.grownBy.refl _ _⟩
  case round =>
    obtain ⟨k, zs, hk, rfl, rfl, rfl, HM, hown, hg⟩ := hrel
    by_cases hlt : k < n
    · obtain ⟨g', y, rfl, hB, hg', HY, gc, gf⟩ := hown.at hlt
      go_wp2
      go_roundg (n - (k + 1))
      case rel => exact ⟨k + 1, _, by omega, rfl, by go_num, by go_num, HM.out.succ hlt, by first | exact hown.set k (mkBoolS K k) | (have := hown.set k (mkBoolS K k); simpa [mkBoolS] using this), gset (g := g') (p := ⟨g', k, none⟩) hg (.inl rfl) _⟩
      case measure => omega
    · go_wp2
      go_ret
      obtain rfl : k = n := by omega
      exact ⟨zs, rfl, HM.out, hown, hg⟩
theorem heldBoolS_any (A : Option Addr) (n c : Nat) (zs : List Bool) (K : Int) (w : World) (h : RdL bv w A n zs) (hm : MarkTo (mkBoolS K) n n zs) (hn : n ≤ 2000000) (hK : 0 ≤ K) (hK' : K ≤ 1000000000) :
    Calls Try.prog 37 #[.slice A n c, .int .i64 K] w fun e w' => e = .returned (.int .i64 (K + n)) ∧ ∃ m, w' = w.drewN m := by
  have HM := Lib.hid hm; clear hm
  go_enter Try.func37, Try.ntmps37
  go_wp2
  go_loopg [1, 5] n (fun g s i wr => ∃ k m : Nat, k ≤ n ∧ g = n - k ∧ i = .int .i64 k ∧ s = .int .i64 (K + k) ∧ wr = w.drewN m)
  case atStart => exact ⟨0, 0, Nat.zero_le _, rfl, rfl, by simp, rfl⟩
  case round =>
    obtain ⟨k, m, hk, rfl, rfl, rfl, rfl⟩ := hrel
    by_cases hlt : k < n
    · obtain ⟨b, off, x, rfl, HX, g⟩ := h.at hlt
      have hx : x = mkBoolS K k := by have := HM.out.2 k hlt; rw [HX.out] at this; injection this
      subst hx
      clear HX
      unfold mkBoolS at g
      go_wp2
      go_roundg (n - (k + 1))
      case rel => exact ⟨k + 1, m, by omega, rfl, by go_num, by go_num, rfl⟩
      case measure => omega
    · go_wp2
      go_ret
      obtain rfl : k = n := by omega
      exact ⟨rfl, m, rfl⟩
end Go.Proofs.Ytiahpaakkijejaa
