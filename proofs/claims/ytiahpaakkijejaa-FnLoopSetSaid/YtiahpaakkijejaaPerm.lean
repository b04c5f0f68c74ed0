/- isOrder and PermValid of the program: whether a list is a permutation; alive answers true. Condition: at most 1048576 numbers. -/
import Derived.Test.YtiahpaakkijejaaCom
import Derived.Test.YtiahpaakkijejaaMem2
import Derived.Test.YtiahpaakkijejaaPlain
namespace Go.Proofs.Ytiahpaakkijejaa
open Go.RowKit
set_option linter.unusedSimpArgs false
set_option linter.unusedVariables false
/-- Just the places of the list's first k numbers are true. -/
def SeenTo (xs : List Int) (k n : Nat) (ss : List Bool) : Prop := ss.length = n ∧ ∀ j : Nat, ss[j]? = some true ↔ j < n ∧ (j : Int) ∈ xs.take k
theorem SeenTo.zero (xs : List Int) (n : Nat) : SeenTo xs 0 n (List.replicate n false) := by
  refine ⟨by simp, fun j => ?_⟩
  rw [List.getElem?_replicate]
  split <;> simp
theorem SeenTo.succ {xs : List Int} {k n v : Nat} {ss : List Bool} (h : SeenTo xs k n ss) (hx : xs[k]? = some (v : Int)) (hv : v < n) : SeenTo xs (k + 1) n (ss.set v true) := by
  refine ⟨by simp [h.1], fun j => ?_⟩
  rw [take_snoc' hx, List.mem_append, List.getElem?_set]
  by_cases hj : v = j
  · subst hj
    rw [if_pos rfl, if_pos (by rw [h.1]; exact hv)]
    simp [hv]
  · rw [if_neg hj, h.2 j]
    simp; omega
theorem SeenTo.out {xs : List Int} {k n v : Nat} {ss : List Bool} {b : Bool} (h : SeenTo xs k n ss) (hv : v < n) (hb : ss[v]? = some b) : b = true ↔ (v : Int) ∈ xs.take k := by
  have := h.2 v
  rw [hb] at this
  simpa [hv] using this
theorem impl_isOrder (A : Option Addr) (n c : Nat) (xs : List Int) (w : World) (hx : RdL iv w A n xs) (hn : n ≤ 1048576) :
    Calls Try.prog 60 #[.slice A n c] w (RetM (PermOk xs) w) := by
  have HL := hx.len
  have hmk := run_make_row' (P := Try.prog) 31 4 (.bool false) 1 Try.underlying31 info_bool rfl .i64 .i64 n (by omega) (by omega)
  go_enter Try.func60, Try.ntmps60
  go_wp2
  clear hmk
  go_loopg [11] n (fun g i wr => ∃ (k : Nat) (ss : List Bool), k ≤ n ∧ g = n - k ∧ i = .int .i64 k ∧ OwnL bv wr w.heap.size 4 (some ⟨w.heap.size, 0, none⟩) n n ss ∧ Hid (SeenTo xs k n ss) ∧ Hid (PermTo xs k) ∧ Below w.heap.size w wr)
  case atStart => exact ⟨0, _, Nat.zero_le _, rfl, rfl, OwnL.made w false n (by unfold maxLen; omega) _ (Nat.le_refl _), SeenTo.zero xs n, (fun i _ h => absurd h (Nat.not_lt_zero _)), (Below.refl _ _).alloc (Nat.le_refl _) _⟩
  case round =>
    obtain ⟨k, ss, hk, rfl, rfl, hown, HS, HP, hbel⟩ := hrel
    by_cases hlt : k < n
    · obtain ⟨b, off, x, rfl, HX, g⟩ := (hx.below hbel (Nat.le_refl _)).at hlt
      have HNO : Hid ((x < 0 ∨ (n : Int) ≤ x ∨ x ∈ xs.take k) → ¬ PermOk xs) := fun h hp => by
        have := hp k x HX.out
        rw [HL.out] at this
        rcases h with h | h | h
        · omega
        · omega
        · exact this.2.2 h
      by_cases h0 : x < 0
      · go_wp2
        go_ret
        exact RetM.no (HNO.out (.inl h0)) hbel
      · have h0z : decide (x < 0) = false := by simpa using h0
        obtain ⟨v, rfl⟩ : ∃ v : Nat, x = (v : Int) := ⟨x.toNat, by omega⟩
        by_cases h1 : n ≤ v
        · go_wp2
          go_ret
          exact RetM.no (HNO.out (.inr (.inl (by omega)))) hbel
        · have h1z : decide ((n : Int) ≤ (v : Int)) = false := by simp; omega
          have h1z' : decide (n ≤ v) = false := by simp; omega
          have hvn : v < n := by omega
          obtain ⟨g', y, hA, hB, hg', HY, gc, gf⟩ := hown.at hvn
          injection hA with hA; injection hA with hA; subst hA
          cases y with
          | true =>
            have HM : Hid ((v : Int) ∈ xs.take k) := (HS.out.out hvn HY.out).1 rfl
            go_wp2
            go_ret
            exact RetM.no (HNO.out (.inr (.inr HM.out))) hbel
          | false =>
            have HN : Hid ((v : Int) ∉ xs.take k) := fun hm => by have := (HS.out.out hvn HY.out).2 hm; cases this
            go_wp2
            go_roundg (n - (k + 1))
            case rel => exact ⟨k + 1, _, by omega, rfl, by go_num, hown.set v true, HS.out.succ HX.out hvn, HP.out.succ HX.out (by omega) (by rw [HL.out]; omega) HN.out, hbel.setCell (Nat.le_refl _) _⟩
            case measure => omega
    · go_wp2
      go_ret
      exact RetM.yes (HP.out.done (by rw [HL.out]; omega)) hbel
def PermSix (xs : List Int) : Prop := xs.length ≤ 6 ∧ PermOk xs
theorem impl_PermValid (A : Option Addr) (n c : Nat) (xs : List Int) (w : World) (hx : RdL iv w A n xs) (hn : n ≤ 1048576) :
    Calls Try.prog 51 #[.slice A n c] w (RetM (PermSix xs) w) := by
  have HL := hx.len
  by_cases h6 : n ≤ 6
  · go_enter Try.func51, Try.ntmps51
    go_wp2_with fail
    refine (impl_isOrder A n c xs w hx hn).mono ?_
    rintro e w1 ⟨b, rfl, HB, b1⟩
    go_wp2
    go_ret
    exact ⟨b, rfl, ⟨fun h => ⟨by rw [HL.out]; exact h6, HB.out.1 h⟩, fun h => HB.out.2 h.2⟩, b1⟩
  · go_enter Try.func51, Try.ntmps51
    go_wp2
    go_ret
    exact RetM.no (fun h => h6 (by rw [← HL.out]; exact h.1)) (Below.refl _ _)
theorem alive_any (w : World) : Calls Try.prog 18 #[] w fun e w' => e = .returned (.bool true) ∧ Below w.heap.size w w' := by
  have p1 : PermOk [1, 0] := by
    intro i x hx
    rcases i with _ | _ | i
    · simp at hx; subst hx; simp
    · simp at hx; subst hx; simp
    · simp at hx
  have p2 : ¬ PermOk [1, 1] := fun h => by
    have := (h 1 1 rfl).2.2
    simp at this
  have H1 := Lib.hid p1
  have H2 := Lib.hid p2
  clear p1 p2
  have o1 : RdL iv (w.alloc (.cells #[.int .i64 1, .int .i64 0] 3)) (some ⟨w.heap.size, 0, none⟩) 2 [1, 0] := (OwnL.lit (B := w.heap.size) w [1, 0] (by simp [maxLen]) (Nat.le_refl _)).rd
  go_enter Try.func18, Try.ntmps18
  go_wp2_with fail
  refine (impl_PermValid _ 2 2 [1, 0] _ o1 (by omega)).mono ?_
  rintro e w1 ⟨b, rfl, HB, b1⟩
  obtain rfl := HB.out.2 ⟨by simp, H1.out⟩
  clear HB
  have o2 : RdL iv (w1.alloc (.cells #[.int .i64 1, .int .i64 1] 3)) (some ⟨w1.heap.size, 0, none⟩) 2 [1, 1] := (OwnL.lit (B := w1.heap.size) w1 [1, 1] (by simp [maxLen]) (Nat.le_refl _)).rd
  go_wp2_with fail
  refine (impl_PermValid _ 2 2 [1, 1] _ o2 (by omega)).mono ?_
  rintro e w2 ⟨b, rfl, HB, b2⟩
  have hb : b = false := by
    cases b
    · rfl
    · exact absurd (HB.out.1 rfl).2 H2.out
  subst hb
  clear HB
  go_wp2
  go_ret
  refine ⟨rfl, ?_⟩
  have hs := b1.size
  simp at hs
  exact (((Below.refl _ _).alloc (Nat.le_refl _) _).trans (b1.mono (by simp))).trans (((Below.refl _ _).alloc (by omega) _).trans (b2.mono (by simp; omega)))
end Go.Proofs.Ytiahpaakkijejaa
