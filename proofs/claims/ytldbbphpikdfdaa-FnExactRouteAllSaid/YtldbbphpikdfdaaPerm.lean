/- isOrder and PermValid of the program: whether a list is a permutation; alive answers true. Condition: at most 1048576 numbers. -/
import Derived.Test.YtldbbphpikdfdaaCom
import Derived.Test.YtldbbphpikdfdaaMem2
import Derived.Test.YtldbbphpikdfdaaPlain
namespace Go.Proofs.Ytldbbphpikdfdaa
open Go.RowKit
set_option linter.unusedSimpArgs false
set_option linter.unusedVariables false
/-- Just the places of the list's first k numbers are true. -/
def SeenTo (xs : List Int) (k n : Nat) (ss : List Bool) : Prop := ss.length = n ∧ ∀ j : Nat, ss[j]? = some true ↔ j < n ∧ (j : Int) ∈ xs.take k
theorem SeenTo.zero (xs : List Int) (n : Nat) : SeenTo xs 0 n (List.replicate n false) := by
  refine ⟨by simp, fun j => ?_⟩
  rw [List.getElem?_replicate]
  split <;> simp
theorem SeenTo.succ {xs : List Int} {k n v : Nat} {ss : List Bool} (h : SeenTo xs k n ss) (hx : xs[k]? = some (v : Int)) (hv : v < n) : SeenTo xs (k + 1) n (ss.set v true) := by
  refine ⟨by simp [h.1], fun j => ?_⟩
  rw [take_snoc' hx, List.mem_append, List.getElem?_set]
  by_cases hj : v = j
  · subst hj
    rw [if_pos rfl, if_pos (by rw [h.1]; exact hv)]
    simp [hv]
  · rw [if_neg hj, h.2 j]
    simp; omega
theorem SeenTo.out {xs : List Int} {k n v : Nat} {ss : List Bool} {b : Bool} (h : SeenTo xs k n ss) (hv : v < n) (hb : ss[v]? = some b) : b = true ↔ (v : Int) ∈ xs.take k := by
  have := h.2 v
  rw [hb] at this
  simpa [hv] using this
theorem impl_isOrder (A : Option Addr) (n c : Nat) (xs : List Int) (w : World) (hx : RdL iv w A n xs) (hn : n ≤ 1048576) :
    Calls Try.prog 60 #[.slice A n c] w (RetM (PermOk xs) w) := by
  have HL := hx.len
  have hmk := run_make_row' (P := Try.prog) 59 4 (.bool false) 1 Try.underlying59 info_bool rfl .i64 .i64 n (by omega) (by omega)
  go_enter Try.func60, Try.ntmps60
  go_wp2
  clear hmk
  go_loopg [11] n (fun g i wr => ∃ (k : Nat) (ss : List Bool), k ≤ n ∧ g = n - k ∧ i = .int .i64 k ∧ OwnL bv wr w.heap.size 4 (some ⟨w.heap.size, 0, none⟩) n n ss ∧ Hid (SeenTo xs k n ss) ∧ Hid (PermTo xs k) ∧ Below w.heap.size w wr)
  case atStart => exact ⟨0, _, Nat.zero_le _, rfl, rfl, OwnL.made w false n (by unfold maxLen; omega) _ (Nat.le_refl _), SeenTo.zero xs n, (fun i _ h => absurd h (Nat.not_lt_zero _)), (Below.refl _ _).alloc (Nat.le_refl _) _⟩
  case round =>
    obtain ⟨k, ss, hk, rfl, rfl, hown, HS, HP, hbel⟩ := hrel
    by_cases hlt : k < n
    · obtain ⟨b, off, x, rfl, HX, g⟩ := (hx.below hbel (Nat.le_refl _)).at hlt
      have HNO : Hid ((x < 0 ∨ (n : Int) ≤ x ∨ x ∈ xs.take k) → ¬ PermOk xs) := fun h hp => by
        have := hp k x HX.out
        rw [HL.out] at this
        rcases h with h | h | h
        · omega
        · omega
        · exact this.2.2 h
      by_cases h0 : x < 0
      · go_wp2
        go_ret
        exact RetM.no (HNO.out (.inl h0)) hbel
      · have h0z : decide (x < 0) = false := by simpa using h0
        obtain ⟨v, rfl⟩ : ∃ v : Nat, x = (v : Int) := ⟨x.toNat, by omega⟩
        by_cases h1 : n ≤ v
        · go_wp2
          go_ret
          exact RetM.no (HNO.out (.inr (.inl (by omega)))) hbel
        · have h1z : decide ((n : Int) ≤ (v : Int)) = false := by simp; omega
          have h1z' : decide (n ≤ v) = false := by simp; omega
          have hvn : v < n := by omega
          obtain ⟨g', y, hA, hB, hg', HY, gc, gf⟩ := hown.at hvn
          injection hA with hA; injection hA with hA; subst hA
          cases y with
          | true =>
            have HM : Hid ((v : Int) ∈ xs.take k) := (HS.out.out hvn HY.out).1 rfl
            go_wp2
            go_ret
            exact RetM.no (HNO.out (.inr (.inr HM.out))) hbel
          | false =>
            have HN : Hid ((v : Int) ∉ xs.take k) := fun hm => by have := (HS.out.out hvn HY.out).2 hm; cases this
            go_wp2
            go_roundg (n - (k + 1))
            case rel => exact ⟨k + 1, _, by omega, rfl, by go_num, hown.set v true, HS.out.succ HX.out hvn, HP.out.succ HX.out (by omega) (by rw [HL.out]; omega) HN.out, hbel.setCell (Nat.le_refl _) _⟩
            case measure => omega
    · go_wp2
      go_ret
      exact RetM.yes (HP.out.done (by rw [HL.out]; omega)) hbel
end Go.Proofs.Ytldbbphpikdfdaa
