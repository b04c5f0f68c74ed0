/- The size of a list of texts (szStringS), and DialOne of the program and of the reference. Condition: sizes that fit an int; at most 1048576 texts of at most 1048576 bytes. -/
import Derived.Test.Ytplalcciodbddaa6p
namespace Go.Proofs.Ytplalcciodbddaa
open Go.RowKit
set_option linter.unusedSimpArgs false
set_option linter.unusedVariables false
/-- What szStringS tells: a number from 0 on only if the list and each text of it are small. -/
def SzS (n : Nat) (xs : List ByteArray) (w : World) (e : Ending) (w' : World) : Prop := ∃ r : Int, e = .returned (.int .i64 r) ∧ Hid (0 ≤ r → n ≤ 1048576 ∧ ∀ x ∈ xs, x.size ≤ 1048576) ∧ ∃ m, w' = w.drewN m
theorem SzS.no {n : Nat} {xs : List ByteArray} {w : World} (m : Nat) : SzS n xs w (.returned (.int .i64 (-1))) (w.drewN m) := ⟨-1, rfl, (fun h => absurd h (by omega)), m, rfl⟩
def SmallTo (xs : List ByteArray) (k : Nat) : Prop := ∀ (i : Nat) x, i < k → xs[i]? = some x → x.size ≤ 1048576
theorem SmallTo.succ {xs : List ByteArray} {k : Nat} {x : ByteArray} (h : SmallTo xs k) (hx : xs[k]? = some x) (ho : x.size ≤ 1048576) : SmallTo xs (k + 1) := by
  intro i y hi hy
  rcases (by omega : i < k ∨ i = k) with h1 | rfl
  · exact h i y h1 hy
  · rw [hx] at hy; injection hy with hy; subst hy; exact ho
theorem SmallTo.all {xs : List ByteArray} (h : SmallTo xs xs.length) : ∀ x ∈ xs, x.size ≤ 1048576 := by
  intro x hx
  obtain ⟨i, hi⟩ := List.getElem?_of_mem hx
  exact h i x (List.getElem?_eq_some_iff.1 hi).1 hi

theorem szStringS_any (A : Option Addr) (n c : Nat) (xs : List ByteArray) (w : World) (hx : RdL sv w A n xs) (hn : n ≤ maxLen) (hs : ∀ x ∈ xs, x.size ≤ maxLen) :
    Calls Try.prog 30 #[.slice A n c, .int .i64 1048576] w (SzS n xs w) := by
  have HL := hx.len
  have HS := Lib.hid hs; clear hs
  unfold maxLen at hn
  by_cases hbig : n ≤ 1048576
  · have hz : decide ((1048576 : Int) - (n : Int) < 0) = false := by simp; omega
    go_enter Try.func30, Try.ntmps30
    go_wp2
    go_loopg [1, 5] n (fun g l i wr => ∃ (k m : Nat) (L : Int), k ≤ n ∧ g = n - k ∧ i = .int .i64 k ∧ l = .int .i64 L ∧ 0 ≤ L ∧ L ≤ 1048576 ∧ SmallTo xs k ∧ wr = w.drewN m)
    case atStart => exact ⟨0, 0, 1048576 - (n : Int), Nat.zero_le _, rfl, rfl, rfl, by omega, by omega, (fun i _ h => absurd h (Nat.not_lt_zero _)), rfl⟩
    case round =>
      obtain ⟨k, m, L, hk, rfl, rfl, rfl, hL0, hL1, hall, rfl⟩ := hrel
      by_cases hlt : k < n
      · obtain ⟨b, off, x, rfl, HX, g⟩ := hx.at hlt
        have hxs : x.size ≤ 9223372036854775807 := by have := HS.out x (List.mem_of_getElem? HX.out); unfold maxLen at this; omega
        by_cases h1 : L - (x.size : Int) < 0
        · go_wp2
          go_ret
          exact SzS.no _
        · go_wp2
          go_roundg (n - (k + 1))
          case rel => exact ⟨k + 1, m, L - (x.size : Int), by omega, rfl, by go_num, rfl, by omega, by omega, hall.succ HX.out (by omega), rfl⟩
          case measure => omega
      · go_wp2
        go_ret
        obtain rfl : k = n := by omega
        exact ⟨L, rfl, (fun _ => ⟨by omega, SmallTo.all (by rw [HL.out]; exact hall)⟩), _, rfl⟩
  · go_enter Try.func30, Try.ntmps30
    go_wp2
    go_ret
    exact SzS.no 0

/-- The first number of a plan with which a text begins, from the place k on. -/
def firstAt (s : ByteArray) : List ByteArray → Nat → Option (Nat × Nat)
  | [], _ => none
  | x :: r, k => if begB s x = true then some (k, x.size) else firstAt s r (k + 1)
def dialP (o : Option (Nat × Nat)) : Int × Int := match o with | some (k, l) => ((k : Int), (l : Int)) | none => (-1, 0)
theorem firstAt_stop {s : ByteArray} {xs : List ByteArray} {k : Nat} {x : ByteArray} (h : ∀ (i : Nat) y, i < k → xs[i]? = some y → begB s y = false) (hx : xs[k]? = some x) (hb : begB s x = true) : ∀ o, firstAt s xs o = some (o + k, x.size) := by
  induction xs generalizing k with
  | nil => simp at hx
  | cons y r ih =>
    intro o
    cases k with
    | zero => simp at hx; subst hx; simp [firstAt, hb]
    | succ k =>
      have h0 := h 0 y (by omega) rfl
      rw [firstAt, h0, if_neg (by simp)]
      rw [ih (k := k) (fun i z hi hz => h (i + 1) z (by omega) (by simpa using hz)) (by simpa using hx)]
      congr 2; omega
theorem firstAt_none {s : ByteArray} {xs : List ByteArray} (h : ∀ (i : Nat) y, i < xs.length → xs[i]? = some y → begB s y = false) : ∀ o, firstAt s xs o = none := by
  induction xs with
  | nil => intro o; rfl
  | cons y r ih =>
    intro o
    have h0 := h 0 y (by simp) rfl
    rw [firstAt, h0, if_neg (by simp)]
    exact ih (fun i z hi hz => h (i + 1) z (by simp; omega) (by simpa using hz)) _
def NotTo (s : ByteArray) (xs : List ByteArray) (k : Nat) : Prop := ∀ (i : Nat) y, i < k → xs[i]? = some y → begB s y = false
theorem NotTo.succ {s : ByteArray} {xs : List ByteArray} {k : Nat} {x : ByteArray} (h : NotTo s xs k) (hx : xs[k]? = some x) (ho : begB s x = false) : NotTo s xs (k + 1) := by
  intro i y hi hy
  rcases (by omega : i < k ∨ i = k) with h1 | rfl
  · exact h i y h1 hy
  · rw [hx] at hy; injection hy with hy; subst hy; exact ho
def RetD (p : Int × Int) (w : World) (e : Ending) (w' : World) : Prop := e = .returned (.tuple #[.int .i64 p.1, .int .i64 p.2]) ∧ ∃ m, w' = w.drewN m
theorem RetD.mk2 {p : Int × Int} {w : World} {a b : Int} (h : p = (a, b)) (m k : Nat) : RetD p w (.returned (.tuple #[.int .i64 a, .int .i64 b])) ((w.drewN m).drewN k) := by
  subst h; exact ⟨rfl, m + k, by simp⟩
theorem RetD.mk {p : Int × Int} {w : World} {a b : Int} (h : p = (a, b)) (m : Nat) : RetD p w (.returned (.tuple #[.int .i64 a, .int .i64 b])) (w.drewN m) := by
  subst h; exact ⟨rfl, m, rfl⟩

theorem impl_dialFirst (A : Option Addr) (n c : Nat) (xs : List ByteArray) (s : ByteArray) (w : World) (hx : RdL sv w A n xs) (hn : n ≤ 1048576) :
    Calls Try.prog 56 #[.slice A n c, .string s] w (RetD (dialP (firstAt s xs 0)) w) := by
  have HL := hx.len
  go_enter Try.func56, Try.ntmps56
  go_wp2
  go_loopg [10] n (fun g i wr => ∃ k m : Nat, k ≤ n ∧ g = n - k ∧ i = .int .i64 k ∧ NotTo s xs k ∧ wr = w.drewN m)
  case atStart => exact ⟨0, 0, Nat.zero_le _, rfl, rfl, (fun i _ h => absurd h (Nat.not_lt_zero _)), rfl⟩
  case round =>
    obtain ⟨k, m, hk, rfl, rfl, hall, rfl⟩ := hrel
    by_cases hlt : k < n
    · obtain ⟨b, off, x, rfl, HX, g⟩ := hx.at hlt
      cases hb : begB s x with
      | true =>
        have HB := Lib.hid hb; clear hb
        go_wp2_with fail
        refine (strings_HasPrefix s x _).mono ?_
        rintro e w2 ⟨rfl, m2, rfl⟩
        rw [HB.out]
        go_wp2
        go_ret2
        exact RetD.mk (by rw [firstAt_stop hall HX.out HB.out 0]; simp [dialP]) _
      | false =>
        have HB := Lib.hid hb; clear hb
        go_wp2_with fail
        refine (strings_HasPrefix s x _).mono ?_
        rintro e w2 ⟨rfl, m2, rfl⟩
        rw [HB.out]
        go_wp2
        go_roundg (n - (k + 1))
        case rel => exact ⟨k + 1, m + m2, by omega, rfl, by go_num, hall.succ HX.out HB.out, by simp⟩
        case measure => omega
    · go_wp2
      go_ret2
      obtain rfl : k = n := by omega
      exact RetD.mk (by rw [firstAt_none (by rw [HL.out]; exact hall) 0]; rfl) _
open Classical in
noncomputable def dialOne (xs : List ByteArray) (s : ByteArray) : Int × Int := if PlanOk xs ∧ digitsB s = true then dialP (firstAt s xs 0) else (-1, 0)

theorem impl_DialOne (A : Option Addr) (n c : Nat) (xs : List ByteArray) (s : ByteArray) (w : World) (hx : RdL sv w A n xs) (hc : n ≤ c) (hn : n ≤ 1048576) (hs : s.size ≤ 1048576) :
    Calls Try.prog 41 #[.slice A n c, .string s] w (RetD (dialOne xs s) w) := by
  go_enter Try.func41, Try.ntmps41
  go_wp2_with fail
  refine (impl_PlanValid A n c xs w hx hc hn).mono ?_
  rintro e w1 ⟨b, rfl, hb, m1, rfl⟩
  cases b with
  | false =>
    go_wp2
    go_ret2
    exact RetD.mk (by rw [dialOne, if_neg (fun h => by have := hb.out.2 h.1; cases this)]) _
  | true =>
    have HP : Hid (PlanOk xs) := hb.out.1 rfl
    clear hb
    cases hd : digitsB s with
    | false =>
      have HD := Lib.hid hd; clear hd
      go_wp2_with fail
      refine (impl_DigitsOk s _ (by omega)).mono ?_
      rintro e w2 ⟨rfl, m2, rfl⟩
      rw [HD.out]
      go_wp2
      go_ret2
      exact RetD.mk (by rw [dialOne, if_neg (fun h => by have := h.2; rw [HD.out] at this; cases this)]) _
    | true =>
      have HD := Lib.hid hd; clear hd
      go_wp2_with fail
      refine (impl_DigitsOk s _ (by omega)).mono ?_
      rintro e w2 ⟨rfl, m2, rfl⟩
      rw [HD.out]
      go_wp2_with fail
      refine (impl_dialFirst A n c xs s _ (hx.drewN _) hn).mono ?_
      rintro e w3 ⟨rfl, m3, rfl⟩
      go_wp2
      go_ret2
      exact RetD.mk (by rw [dialOne, if_pos ⟨HP.out, HD.out⟩]) _

theorem spec_DialOne (A : Option Addr) (n c : Nat) (xs : List ByteArray) (s : ByteArray) (w : World) (hx : RdL sv w A n xs) (hn : n ≤ 1048576) (hs : s.size ≤ 1048576) (hxs : ∀ x ∈ xs, x.size ≤ 1048576) :
    Calls Try.prog 40 #[.slice A n c, .string s] w (RetD (dialOne xs s) w) := by
  have HL := hx.len
  have HS := Lib.hid hxs; clear hxs
  go_enter Try.func40, Try.ntmps40
  go_wp2
  go_loopg [6] n (fun g i wr => ∃ k m : Nat, k ≤ n ∧ g = n - k ∧ i = .int .i64 k ∧ NotTo s xs k ∧ wr = w.drewN m)
  case atStart => exact ⟨0, 0, Nat.zero_le _, rfl, rfl, (fun i _ h => absurd h (Nat.not_lt_zero _)), rfl⟩
  case round =>
    obtain ⟨k, m, hk, rfl, rfl, hall, rfl⟩ := hrel
    by_cases hlt : k < n
    · obtain ⟨b, off, x, rfl, HX, g⟩ := hx.at hlt
      have hltz : decide ((k : Int) < (n : Int)) = true := by simp; omega
      go_wp2_with fail
      refine (spec_PlanValid _ n c xs _ (hx.drewN m) hn HS.out).mono ?_
      rintro e w1 ⟨bb, rfl, hb, m1, rfl⟩
      cases bb with
      | false =>
        go_wp2
        go_ret2
        exact RetD.mk (by rw [dialOne, if_neg (fun h => by have := hb.out.2 h.1; cases this)]) _
      | true =>
        have HP : Hid (PlanOk xs) := hb.out.1 rfl
        clear hb
        cases hd : digitsB s with
        | false =>
          have HD := Lib.hid hd; clear hd
          go_wp2_with fail
          refine (spec_DigitsOk s _ (by omega)).mono ?_
          rintro e w2 ⟨rfl, m2, rfl⟩
          rw [HD.out]
          go_wp2
          go_ret2
          exact RetD.mk (by rw [dialOne, if_neg (fun h => by have := h.2; rw [HD.out] at this; cases this)]) _
        | true =>
          have HD := Lib.hid hd; clear hd
          cases hb1 : begB s x with
          | true =>
            have HB := Lib.hid hb1; clear hb1
            go_wp2_with fail
            refine (spec_DigitsOk s _ (by omega)).mono ?_
            rintro e w2 ⟨rfl, m2, rfl⟩
            rw [HD.out]
            go_wp2_with fail
            refine (spec_l6Begins s x _).mono ?_
            rintro e w3 ⟨rfl, m3, rfl⟩
            rw [HB.out]
            go_wp2
            go_quiet (fail)
            go_wp2
            go_ret2
            exact RetD.mk2 (by rw [dialOne, if_pos ⟨HP.out, HD.out⟩, firstAt_stop hall HX.out HB.out 0]; simp [dialP]) _ _
          | false =>
            have HB := Lib.hid hb1; clear hb1
            go_wp2_with fail
            refine (spec_DigitsOk s _ (by omega)).mono ?_
            rintro e w2 ⟨rfl, m2, rfl⟩
            rw [HD.out]
            go_wp2_with fail
            refine (spec_l6Begins s x _).mono ?_
            rintro e w3 ⟨rfl, m3, rfl⟩
            rw [HB.out]
            go_wp2
            go_roundg (n - (k + 1))
            case rel => exact ⟨k + 1, m + m1 + m2 + m3, by omega, rfl, by go_num, hall.succ HX.out HB.out, by simp⟩
            case measure => omega
    · go_wp2
      go_ret2
      obtain rfl : k = n := by omega
      exact RetD.mk (by
        rw [dialOne]
        split
        · rw [firstAt_none (by rw [HL.out]; exact hall) 0]; rfl
        · rfl) _
end Go.Proofs.Ytplalcciodbddaa
