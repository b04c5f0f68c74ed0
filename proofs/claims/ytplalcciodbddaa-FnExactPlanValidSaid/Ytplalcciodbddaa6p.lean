/- Texts that begin with others, and PlanValid of the program and of the reference. Condition: at most 1048576 texts, each of at most 1048576 bytes. -/
import Derived.Test.Ytplalcciodbddaa6d
namespace Go.Proofs.Ytplalcciodbddaa
open Go.RowKit
set_option linter.unusedSimpArgs false
set_option linter.unusedVariables false
def begB (s p : ByteArray) : Bool := decide (p.size ≤ s.size) && ((s.extract 0 p.size).toList == p.toList)
theorem spec_l6Begins (s p : ByteArray) (w : World) : Calls Try.prog 51 #[.string s, .string p] w fun e w' => e = .returned (.bool (begB s p)) ∧ ∃ m, w' = w.drewN m := by
  by_cases h : p.size ≤ s.size
  · go_enter Try.func51, Try.ntmps51
    go_wp2
    go_ret
    exact ⟨ret_bool (by rw [begB, decide_eq_true h]; rfl), 0, rfl⟩
  · go_enter Try.func51, Try.ntmps51
    go_wp2
    go_ret
    exact ⟨ret_bool (by rw [begB, decide_eq_false h]; rfl), 0, rfl⟩
theorem strings_HasPrefix (s p : ByteArray) (w : World) : Calls Try.prog 52 #[.string s, .string p] w fun e w' => e = .returned (.bool (begB s p)) ∧ ∃ m, w' = w.drewN m := by
  by_cases h : p.size ≤ s.size
  · go_enter Try.func52, Try.ntmps52
    go_wp2
    go_ret
    exact ⟨ret_bool (by rw [begB, decide_eq_true h]; rfl), 0, rfl⟩
  · go_enter Try.func52, Try.ntmps52
    go_wp2
    go_ret
    exact ⟨ret_bool (by rw [begB, decide_eq_false h]; rfl), 0, rfl⟩

def okNum (x : ByteArray) : Bool := inB x.size 1 3 && digitsB x
/-- The number at place k is a number, and it and the first j ones do not begin with each other. -/
def PairsTo (xs : List ByteArray) (k : Nat) (x : ByteArray) (j : Nat) : Prop := ∀ (i : Nat) y, i < j → xs[i]? = some y → begB x y = false ∧ begB y x = false
def PlanTo (xs : List ByteArray) (k : Nat) : Prop := ∀ (i : Nat) x, i < k → xs[i]? = some x → okNum x = true ∧ PairsTo xs i x i
def PlanOk (xs : List ByteArray) : Prop := PlanTo xs xs.length ∧ xs.length ≤ 10
theorem PlanTo.zero (xs : List ByteArray) : PlanTo xs 0 := fun i _ h => absurd h (Nat.not_lt_zero _)
theorem PlanTo.succ {xs : List ByteArray} {k : Nat} {x : ByteArray} (h : PlanTo xs k) (hx : xs[k]? = some x) (ho : okNum x = true) (hp : PairsTo xs k x k) : PlanTo xs (k + 1) := by
  intro i y hi hy
  rcases (by omega : i < k ∨ i = k) with h1 | rfl
  · exact h i y h1 hy
  · rw [hx] at hy; injection hy with hy; subst hy; exact ⟨ho, hp⟩
theorem PairsTo.zero (xs : List ByteArray) (k : Nat) (x : ByteArray) : PairsTo xs k x 0 := fun i _ h => absurd h (Nat.not_lt_zero _)
theorem PairsTo.succ {xs : List ByteArray} {k j : Nat} {x y : ByteArray} (h : PairsTo xs k x j) (hy : xs[j]? = some y) (h1 : begB x y = false) (h2 : begB y x = false) : PairsTo xs k x (j + 1) := by
  intro i z hi hz
  rcases (by omega : i < j ∨ i = j) with h3 | rfl
  · exact h i z h3 hz
  · rw [hy] at hz; injection hz with hz; subst hz; exact ⟨h1, h2⟩
theorem not_plan_num {xs : List ByteArray} {k : Nat} {x : ByteArray} (hx : xs[k]? = some x) (ho : okNum x = false) : ¬ PlanOk xs := fun h => by
  have := (h.1 k x (List.getElem?_eq_some_iff.1 hx).1 hx).1; rw [ho] at this; cases this
theorem not_plan_pair {xs : List ByteArray} {k j : Nat} {x y : ByteArray} (hj : j < k) (hx : xs[k]? = some x) (hy : xs[j]? = some y) (ho : begB x y = true ∨ begB y x = true) : ¬ PlanOk xs := fun h => by
  have := (h.1 k x (List.getElem?_eq_some_iff.1 hx).1 hx).2 j y hj hy
  rcases ho with ho | ho
  · rw [this.1] at ho; cases ho
  · rw [this.2] at ho; cases ho

theorem impl_PlanValid (A : Option Addr) (n c : Nat) (xs : List ByteArray) (w : World) (hx : RdL sv w A n xs) (hc : n ≤ c) (hn : n ≤ 1048576) :
    Calls Try.prog 33 #[.slice A n c] w (RetB (PlanOk xs) w) := by
  have HL := hx.len
  by_cases h10 : n ≤ 10
  · have h10z : decide ((10 : Int) < (n : Int)) = false := by simp; omega
    go_enter Try.func33, Try.ntmps33
    go_wp2
    go_loopg [12] n (fun g i wr => ∃ k m : Nat, k ≤ n ∧ g = n - k ∧ i = .int .i64 k ∧ PlanTo xs k ∧ wr = w.drewN m)
    case atStart => exact ⟨0, 0, Nat.zero_le _, rfl, rfl, PlanTo.zero _, rfl⟩
    case round =>
      obtain ⟨k, m, hk, rfl, rfl, hall, rfl⟩ := hrel
      by_cases hlt : k < n
      · obtain ⟨b, off, x, rfl, HX, g⟩ := hx.at hlt
        by_cases h1 : x.size < 1
        · go_wp2
          go_ret
          exact RetB.no (not_plan_num HX.out (by simp [okNum, inB]; omega)) _
        · by_cases h3 : 3 < x.size
          · go_wp2
            go_ret
            exact RetB.no (not_plan_num HX.out (by simp [okNum, inB]; omega)) _
          · have hz1 : decide ((x.size : Int) < 1) = false := by simp; omega
            have hz3 : decide ((3 : Int) < (x.size : Int)) = false := by simp; omega
            cases hd : digitsB x with
            | false =>
              have HD := Lib.hid hd; clear hd
              go_wp2_with fail
              refine (impl_DigitsOk x _ (by omega)).mono ?_
              rintro e w2 ⟨rfl, m2, rfl⟩
              rw [HD.out]
              go_wp2
              go_ret
              exact RetB.no (not_plan_num HX.out (by simp [okNum, HD.out])) _
            | true =>
              have HD := Lib.hid hd; clear hd
              go_wp2_with fail
              refine (impl_DigitsOk x _ (by omega)).mono ?_
              rintro e w2 ⟨rfl, m2, rfl⟩
              rw [HD.out]
              go_wp2
              go_loopg [34] k (fun g i wr => ∃ j m' : Nat, j ≤ k ∧ g = k - j ∧ i = .int .i64 j ∧ PairsTo xs k x j ∧ wr = w.drewN m')
              case atStart => exact ⟨0, m + m2, Nat.zero_le _, rfl, rfl, PairsTo.zero _ _ _, by simp⟩
              case round =>
                obtain ⟨j, m', hj, rfl, rfl, hpairs, rfl⟩ := hrel
                by_cases hjk : j < k
                · obtain ⟨b', off', y, hA, HY, g'⟩ := hx.at (k := j) (by omega)
                  injection hA with hA; injection hA with hA1 hA2; subst hA1 hA2
                  cases hb1 : begB x y with
                  | true =>
                    have HB1 := Lib.hid hb1; clear hb1
                    go_wp2_with fail
                    refine (strings_HasPrefix x y _).mono ?_
                    rintro e w3 ⟨rfl, m3, rfl⟩
                    rw [HB1.out]
                    go_wp2
                    go_ret
                    exact RetB.no (not_plan_pair hjk HX.out HY.out (.inl HB1.out)) _
                  | false =>
                    have HB1 := Lib.hid hb1; clear hb1
                    cases hb2 : begB y x with
                    | true =>
                      have HB2 := Lib.hid hb2; clear hb2
                      go_wp2_with fail
                      refine (strings_HasPrefix x y _).mono ?_
                      rintro e w3 ⟨rfl, m3, rfl⟩
                      rw [HB1.out]
                      go_wp2_with fail
                      refine (strings_HasPrefix y x _).mono ?_
                      rintro e w4 ⟨rfl, m4, rfl⟩
                      rw [HB2.out]
                      go_wp2
                      go_ret
                      exact RetB.no (not_plan_pair hjk HX.out HY.out (.inr HB2.out)) _
                    | false =>
                      have HB2 := Lib.hid hb2; clear hb2
                      go_wp2_with fail
                      refine (strings_HasPrefix x y _).mono ?_
                      rintro e w3 ⟨rfl, m3, rfl⟩
                      rw [HB1.out]
                      go_wp2_with fail
                      refine (strings_HasPrefix y x _).mono ?_
                      rintro e w4 ⟨rfl, m4, rfl⟩
                      rw [HB2.out]
                      go_wp2
                      go_roundg (k - (j + 1))
                      case rel => exact ⟨j + 1, m' + m3 + m4, by omega, rfl, by go_num, hpairs.succ HY.out HB1.out HB2.out, by simp⟩
                      case measure => omega
                · go_wp2
                  obtain rfl : j = k := by omega
                  go_roundg (n - (j + 1))
                  case rel => exact ⟨j + 1, m', by omega, rfl, by go_num, hall.succ HX.out (by simp [okNum, inB, HD.out]; omega) hpairs, rfl⟩
                  case measure => omega
      · go_wp2
        go_ret
        obtain rfl : k = n := by omega
        exact RetB.yes ⟨by rw [HL.out]; exact hall, by rw [HL.out]; exact h10⟩ _
  · go_enter Try.func33, Try.ntmps33
    go_wp2
    go_ret
    exact RetB.no (fun h => absurd h.2 (by rw [HL.out]; exact h10)) 0

def NoneTo (xs : List ByteArray) (k : Nat) (x : ByteArray) (j : Nat) : Prop := ∀ (i : Nat) y, i < j → i ≠ k → xs[i]? = some y → begB x y = false
def PlanToS (xs : List ByteArray) (k : Nat) : Prop := ∀ (i : Nat) x, i < k → xs[i]? = some x → okNum x = true ∧ NoneTo xs i x xs.length
theorem planS (xs : List ByteArray) : PlanToS xs xs.length ↔ PlanTo xs xs.length := by
  constructor
  · intro h i x hi hx
    refine ⟨(h i x hi hx).1, fun j y hj hy => ⟨(h i x hi hx).2 j y (by omega) (by omega) hy, (h j y (by omega) hy).2 i x hi (by omega) hx⟩⟩
  · intro h i x hi hx
    refine ⟨(h i x hi hx).1, fun j y hj hne hy => ?_⟩
    rcases (by omega : j < i ∨ i < j) with h1 | h1
    · exact ((h i x hi hx).2 j y h1 hy).1
    · exact ((h j y hj hy).2 i x h1 hx).2
theorem PlanToS.succ {xs : List ByteArray} {k : Nat} {x : ByteArray} (h : PlanToS xs k) (hx : xs[k]? = some x) (ho : okNum x = true) (hp : NoneTo xs k x xs.length) : PlanToS xs (k + 1) := by
  intro i y hi hy
  rcases (by omega : i < k ∨ i = k) with h1 | rfl
  · exact h i y h1 hy
  · rw [hx] at hy; injection hy with hy; subst hy; exact ⟨ho, hp⟩
theorem NoneTo.succ {xs : List ByteArray} {k j : Nat} {x y : ByteArray} (h : NoneTo xs k x j) (hy : xs[j]? = some y) (h1 : j ≠ k → begB x y = false) : NoneTo xs k x (j + 1) := by
  intro i z hi hne hz
  rcases (by omega : i < j ∨ i = j) with h3 | rfl
  · exact h i z h3 hne hz
  · rw [hy] at hz; injection hz with hz; subst hz; exact h1 hne
theorem not_plan_other {xs : List ByteArray} {k j : Nat} {x y : ByteArray} (hj : j ≠ k) (hx : xs[k]? = some x) (hy : xs[j]? = some y) (ho : begB x y = true) : ¬ PlanOk xs := fun h => by
  have h1 := ((planS xs).2 h.1) k x (List.getElem?_eq_some_iff.1 hx).1 hx
  have := h1.2 j y (List.getElem?_eq_some_iff.1 hy).1 hj hy
  rw [this] at ho; cases ho

theorem spec_PlanValid (A : Option Addr) (n c : Nat) (xs : List ByteArray) (w : World) (hx : RdL sv w A n xs) (hn : n ≤ 1048576) (hs : ∀ x ∈ xs, x.size ≤ 1048576) :
    Calls Try.prog 31 #[.slice A n c] w (RetB (PlanOk xs) w) := by
  have HL := hx.len
  have HS := Lib.hid hs; clear hs
  go_enter Try.func31, Try.ntmps31
  go_wp2
  go_loopg [3] n (fun g i wr => ∃ k m : Nat, k ≤ n ∧ g = n - k ∧ i = .int .i64 k ∧ PlanToS xs k ∧ wr = w.drewN m)
  case atStart => exact ⟨0, 0, Nat.zero_le _, rfl, rfl, (fun i _ h => absurd h (Nat.not_lt_zero _)), rfl⟩
  case round =>
    obtain ⟨k, m, hk, rfl, rfl, hall, rfl⟩ := hrel
    by_cases hlt : k < n
    · obtain ⟨b, off, x, rfl, HX, g⟩ := hx.at hlt
      have hxs : x.size ≤ 1048576 := HS.out x (List.mem_of_getElem? HX.out)
      cases hd : digitsB x with
      | false =>
        have HD := Lib.hid hd; clear hd
        go_wp2_with fail
        refine (spec_DigitsOk x _ (by omega)).mono ?_
        rintro e w2 ⟨rfl, m2, rfl⟩
        rw [HD.out]
        go_wp2
        go_ret
        exact RetB.no (not_plan_num HX.out (by simp [okNum, HD.out])) _
      | true =>
        have HD := Lib.hid hd; clear hd
        cases hi : inB x.size 1 3 with
        | false =>
          have HI := Lib.hid hi; clear hi
          go_wp2_with fail
          refine (spec_DigitsOk x _ (by omega)).mono ?_
          rintro e w2 ⟨rfl, m2, rfl⟩
          rw [HD.out]
          go_wp2_with fail
          refine (l1In_any x.size 1 3 _).mono ?_
          rintro e w3 ⟨rfl, m3, rfl⟩
          rw [HI.out]
          go_wp2
          go_ret
          exact RetB.no (not_plan_num HX.out (by rw [okNum, HI.out]; rfl)) _
        | true =>
          have HI := Lib.hid hi; clear hi
          go_wp2_with fail
          refine (spec_DigitsOk x _ (by omega)).mono ?_
          rintro e w2 ⟨rfl, m2, rfl⟩
          rw [HD.out]
          go_wp2_with fail
          refine (l1In_any x.size 1 3 _).mono ?_
          rintro e w3 ⟨rfl, m3, rfl⟩
          rw [HI.out]
          go_wp2
          go_loopg [4] n (fun g i wr => ∃ j m' : Nat, j ≤ n ∧ g = n - j ∧ i = .int .i64 j ∧ NoneTo xs k x j ∧ wr = w.drewN m')
          case atStart => exact ⟨0, m + m2 + m3, Nat.zero_le _, rfl, rfl, (fun i _ h => absurd h (Nat.not_lt_zero _)), by simp⟩
          case round =>
            obtain ⟨j, m', hj, rfl, rfl, hpairs, rfl⟩ := hrel
            by_cases hjk : j < n
            · obtain ⟨b', off', y, hA, HY, g'⟩ := hx.at (k := j) (by omega)
              injection hA with hA; injection hA with hA1 hA2; subst hA1 hA2
              by_cases hne : j = k
              · have hz : ((j : Int) != (k : Int)) = false := by simp [hne]
                have HNE := Lib.hid hne; clear hne
                go_wp2
                go_quiet (fail)
                go_wp2
                go_roundg (n - (j + 1))
                case rel => exact ⟨j + 1, m' + nq, by omega, rfl, by go_num, hpairs.succ HY.out (fun h => absurd HNE.out h), by simp⟩
                case measure => omega
              · have hz : ((j : Int) != (k : Int)) = true := by rw [bne_iff_ne]; omega
                have hz2 : ((j : Int) == (k : Int)) = false := by rw [beq_eq_false_iff_ne]; omega
                cases hb1 : begB x y with
                | true =>
                  have HB1 := Lib.hid hb1; clear hb1
                  go_wp2
                  go_quiet ((go_at_call 51; exact quiet_add (spec_l6Begins _ _ _)))
                  rw [HB1.out]
                  go_wp2
                  go_ret
                  exact RetB.no2 (not_plan_other hne HX.out HY.out HB1.out) _ _
                | false =>
                  have HB1 := Lib.hid hb1; clear hb1
                  go_wp2
                  go_quiet ((go_at_call 51; exact quiet_add (spec_l6Begins _ _ _)))
                  rw [HB1.out]
                  go_wp2
                  go_roundg (n - (j + 1))
                  case rel => exact ⟨j + 1, m' + nq, by omega, rfl, by go_num, hpairs.succ HY.out (fun _ => HB1.out), by simp⟩
                  case measure => omega
            · go_wp2
              obtain rfl : j = n := by omega
              go_roundg (j - (k + 1))
              case rel => exact ⟨k + 1, m', by omega, rfl, by go_num, hall.succ HX.out (by rw [okNum, HI.out, HD.out]; rfl) (by rw [HL.out]; exact hpairs), rfl⟩
              case measure => omega
    · obtain rfl : k = n := by omega
      by_cases h10 : k ≤ 10
      · have hz : decide ((k : Int) ≤ 10) = true := by simp; omega
        go_wp2
        go_ret
        exact RetB.yes ⟨(planS xs).1 (by rw [HL.out]; exact hall), by rw [HL.out]; exact h10⟩ _
      · have hz : decide ((k : Int) ≤ 10) = false := by simp; omega
        go_wp2
        go_ret
        exact RetB.no (fun h => absurd h.2 (by rw [HL.out]; exact h10)) _
end Go.Proofs.Ytplalcciodbddaa
