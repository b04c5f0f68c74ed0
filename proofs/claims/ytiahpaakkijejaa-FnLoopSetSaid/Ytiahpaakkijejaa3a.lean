/- The small functions of the networks of switches: how many lines, steps and switches; StepWay of both. No condition. -/
import Derived.Test.YtiahpaakkijejaaHas
import Derived.Test.YtiahpaakkijejaaPerm
import Derived.Test.YtiahpaakkijejaaDraw
import Derived.Test.Ytiahpaakkijejaa3s
namespace Go.Proofs.Ytiahpaakkijejaa
open Go.RowKit
set_option linter.unusedSimpArgs false
set_option linter.unusedVariables false
/-- A slice of the call's own that holds the list; such a slice and a truth. -/
def RetO {α : Type} (emb : α → Value) (T : TypeId) (ys : List α) (w : World) (x : Ending) (w' : World) : Prop := ∃ (A : Option Addr) (n c : Nat), x = .returned (.slice A n c) ∧ OwnL emb w' w.heap.size T A n c ys ∧ Below w.heap.size w w'
def RetOB {α : Type} (emb : α → Value) (T : TypeId) (p : List α × Bool) (w : World) (x : Ending) (w' : World) : Prop :=
  ∃ (A : Option Addr) (n c : Nat) (ys : List α) (b : Bool), x = .returned (.tuple #[.slice A n c, .bool b]) ∧ Hid (p = (ys, b)) ∧ OwnL emb w' w.heap.size T A n c ys ∧ Below w.heap.size w w'
theorem RetOB.mk {α : Type} {emb : α → Value} {T : TypeId} {p : List α × Bool} {w w' : World} {A : Option Addr} {n c : Nat} {b : Bool} (ys : List α) (hp : p = (ys, b)) (h : OwnL emb w' w.heap.size T A n c ys) (hb : Below w.heap.size w w') : RetOB emb T p w (.returned (.tuple #[.slice A n c, .bool b])) w' :=
  ⟨A, n, c, ys, b, rfl, hp, h, hb⟩
theorem quiet_is {P : Program} {f : FuncId} {args : Array Value} {w : World} {v : Value} {E : Ending} (h : Calls P f args w fun e w' => e = E ∧ ∃ m, w' = w.drewN m) (he : E = .returned v) : Calls P f args w fun e w' => e = .returned v ∧ ∃ m, w' = w.drewN m := by rw [← he]; exact h
theorem i64_and1 (n : Int) : bits .and .i64 n 1 = n % 2 := by
  have h1 : (BitVec.ofInt 64 1).toNat = 2 ^ 1 - 1 := by decide
  have key : (BitVec.ofInt 64 n &&& BitVec.ofInt 64 1).toNat = (n % ((2 ^ 64 : Nat) : Int)).toNat % 2 ^ 1 := by
    rw [BitVec.toNat_and, BitVec.toNat_ofInt, h1, Nat.and_two_pow_sub_one_eq_mod]
  show IntKind.i64.wrap ((BitVec.ofInt 64 n &&& BitVec.ofInt 64 1).toNat : Nat) = n % 2
  rw [key, IntKind.wrap_i64]
  omega
theorem xor_one (x : Nat) : x ^^^ 1 = swp x := by
  have h : ∀ x : Nat, x ^^^ 1 = 2 * (x / 2) + (1 - x % 2) := by
    intro x
    apply Nat.eq_of_testBit_eq
    intro i
    rw [Nat.testBit_xor]
    cases i with
    | zero =>
      rw [Nat.testBit_zero, Nat.testBit_zero, Nat.testBit_zero]
      rcases Nat.mod_two_eq_zero_or_one x with h | h <;> simp [h] <;> omega
    | succ i =>
      rw [Nat.testBit_succ, Nat.testBit_succ, Nat.testBit_succ]
      have : (2 * (x / 2) + (1 - x % 2)) / 2 = x / 2 := by omega
      rw [this]; simp
  rw [h]; unfold swp; omega
theorem i64_xor1 (a : Nat) (ha : a < 1099511627776) : bits .xor .i64 (a : Int) 1 = ((swp a : Nat) : Int) := by
  have := i64_xor_nat a 1 ha (by omega)
  rw [xor_one] at this
  simpa using this
def stepsI (l : Int) : Int := if l = 2 then 1 else if l = 4 then 2 else if l = 8 then 3 else -1
def linesB (l : Int) : Bool := decide (l = 2) || (decide (l = 4) || decide (l = 8))
def sManyI (l : Int) : Int := if l = 2 then 1 else if l = 4 then 4 else if l = 8 then 12 else -1
def lManyI (l : Int) : Int := if l = 2 then 1 else if l = 4 then 6 else if l = 8 then 20 else -1
theorem lines_cases (l : Int) : (stepsI l = -1 ∧ linesB l = false ∧ sManyI l = -1 ∧ lManyI l = -1 ∧ l ≠ 2 ∧ l ≠ 4 ∧ l ≠ 8) ∨ ∃ n st : Nat, l = n ∧ NetOk n st ∧ stepsI l = st ∧ linesB l = true ∧ sManyI l = ((n / 2 * st : Nat) : Int) := by
  by_cases h2 : l = 2
  · subst h2; exact .inr ⟨2, 1, rfl, .inl ⟨rfl, rfl⟩, rfl, rfl, rfl⟩
  · by_cases h4 : l = 4
    · subst h4; exact .inr ⟨4, 2, rfl, .inr (.inl ⟨rfl, rfl⟩), rfl, rfl, rfl⟩
    · by_cases h8 : l = 8
      · subst h8; exact .inr ⟨8, 3, rfl, .inr (.inr ⟨rfl, rfl⟩), rfl, rfl, rfl⟩
      · left; simp [stepsI, linesB, sManyI, lManyI, h2, h4, h8]
theorem net_bd {n st : Nat} (h : NetOk n st) : 2 ≤ n ∧ n ≤ 8 ∧ 1 ≤ st ∧ st ≤ 3 := by unfold NetOk at h; omega
theorem impl_stepsOf (l : Int) (w : World) : Calls Try.prog 47 #[.int .i64 l] w fun e w' => e = .returned (.int .i64 (stepsI l)) ∧ ∃ m, w' = w.drewN m := by
  by_cases h2 : l = 2
  · subst h2
    go_enter Try.func47, Try.ntmps47
    go_wp2
    go_ret
    exact ⟨rfl, 0, rfl⟩
  · have z2 : (l == 2) = false := by simpa using h2
    by_cases h4 : l = 4
    · subst h4
      go_enter Try.func47, Try.ntmps47
      go_wp2
      go_ret
      exact ⟨rfl, 0, rfl⟩
    · have z4 : (l == 4) = false := by simpa using h4
      by_cases h8 : l = 8
      · subst h8
        go_enter Try.func47, Try.ntmps47
        go_wp2
        go_ret
        exact ⟨rfl, 0, rfl⟩
      · have z8 : (l == 8) = false := by simpa using h8
        have HE : Hid (stepsI l = -1) := by show _ = _; simp [stepsI, h2, h4, h8]
        clear h2 h4 h8
        go_enter Try.func47, Try.ntmps47
        go_wp2
        go_ret
        exact ⟨ret_int HE.out.symm, 0, rfl⟩
theorem spec_l3Lines (l : Int) (w : World) : Calls Try.prog 48 #[.int .i64 l] w fun e w' => e = .returned (.bool (linesB l)) ∧ ∃ m, w' = w.drewN m := by
  by_cases h2 : l = 2
  · subst h2
    go_enter Try.func48, Try.ntmps48
    go_wp2
    go_ret
    exact ⟨rfl, 0, rfl⟩
  · have z2 : (l == 2) = false := by simpa using h2
    by_cases h4 : l = 4
    · subst h4
      go_enter Try.func48, Try.ntmps48
      go_wp2
      go_ret
      exact ⟨rfl, 0, rfl⟩
    · have z4 : (l == 4) = false := by simpa using h4
      by_cases h8 : l = 8
      · subst h8
        go_enter Try.func48, Try.ntmps48
        go_wp2
        go_ret
        exact ⟨rfl, 0, rfl⟩
      · have z8 : (l == 8) = false := by simpa using h8
        have HE : Hid (linesB l = false) := by show _ = _; simp [linesB, h2, h4, h8]
        clear h2 h4 h8
        go_enter Try.func48, Try.ntmps48
        go_wp2
        go_ret
        exact ⟨ret_bool HE.out.symm, 0, rfl⟩
theorem spec_l3Log (n st : Nat) (w : World) (h : NetOk n st) : Calls Try.prog 50 #[.int .i64 (n : Int)] w fun e w' => e = .returned (.int .i64 st) ∧ ∃ m, w' = w.drewN m := by
  rcases h with ⟨rfl, rfl⟩ | ⟨rfl, rfl⟩ | ⟨rfl, rfl⟩
  · go_enter Try.func50, Try.ntmps50
    go_wp2
    go_loopg [3] 1 (fun g i wr => ∃ k : Nat, k ≤ 1 ∧ g = 1 - k ∧ i = .int .i64 k ∧ wr = w)
    case atStart => exact ⟨0, by omega, rfl, rfl, rfl⟩
    case round =>
      obtain ⟨k, hk, rfl, rfl, rfl⟩ := hrel
      rcases (by omega : k = 0 ∨ k = 1) with rfl | rfl
      · go_wp2
        go_roundg (1 - (0 + 1))
        case rel => exact ⟨1, by omega, rfl, by go_num, rfl⟩
        case measure => omega
      · go_wp2
        go_ret
        exact ⟨rfl, 0, rfl⟩
  · go_enter Try.func50, Try.ntmps50
    go_wp2
    go_loopg [3] 2 (fun g i wr => ∃ k : Nat, k ≤ 2 ∧ g = 2 - k ∧ i = .int .i64 k ∧ wr = w)
    case atStart => exact ⟨0, by omega, rfl, rfl, rfl⟩
    case round =>
      obtain ⟨k, hk, rfl, rfl, rfl⟩ := hrel
      rcases (by omega : k = 0 ∨ k = 1 ∨ k = 2) with rfl | rfl | rfl
      · go_wp2
        go_roundg (2 - (0 + 1))
        case rel => exact ⟨1, by omega, rfl, by go_num, rfl⟩
        case measure => omega
      · go_wp2
        go_roundg (2 - (1 + 1))
        case rel => exact ⟨2, by omega, rfl, by go_num, rfl⟩
        case measure => omega
      · go_wp2
        go_ret
        exact ⟨rfl, 0, rfl⟩
  · go_enter Try.func50, Try.ntmps50
    go_wp2
    go_loopg [3] 3 (fun g i wr => ∃ k : Nat, k ≤ 3 ∧ g = 3 - k ∧ i = .int .i64 k ∧ wr = w)
    case atStart => exact ⟨0, by omega, rfl, rfl, rfl⟩
    case round =>
      obtain ⟨k, hk, rfl, rfl, rfl⟩ := hrel
      rcases (by omega : k = 0 ∨ k = 1 ∨ k = 2 ∨ k = 3) with rfl | rfl | rfl | rfl
      · go_wp2
        go_roundg (3 - (0 + 1))
        case rel => exact ⟨1, by omega, rfl, by go_num, rfl⟩
        case measure => omega
      · go_wp2
        go_roundg (3 - (1 + 1))
        case rel => exact ⟨2, by omega, rfl, by go_num, rfl⟩
        case measure => omega
      · go_wp2
        go_roundg (3 - (2 + 1))
        case rel => exact ⟨3, by omega, rfl, by go_num, rfl⟩
        case measure => omega
      · go_wp2
        go_ret
        exact ⟨rfl, 0, rfl⟩
theorem impl_LoopMany2 (w : World) : Calls Try.prog 57 #[.int .i64 2] w fun e w' => e = .returned (.int .i64 1) ∧ ∃ m, w' = w.drewN m := by
  go_enter Try.func57, Try.ntmps57
  go_wp2_with fail
  go_ret
  exact ⟨rfl, 0, rfl⟩
theorem impl_LoopMany4 (w : World) : Calls Try.prog 57 #[.int .i64 4] w fun e w' => e = .returned (.int .i64 6) ∧ ∃ m, w' = w.drewN m := by
  go_enter Try.func57, Try.ntmps57
  go_wp2_with (go_at_call 57; refine (impl_LoopMany2 _).mono ?_; rintro e w1 ⟨rfl, m1, rfl⟩)
  go_ret
  exact ⟨rfl, _, rfl⟩
theorem impl_LoopMany (l : Int) (w : World) : Calls Try.prog 57 #[.int .i64 l] w fun e w' => e = .returned (.int .i64 (lManyI l)) ∧ ∃ m, w' = w.drewN m := by
  by_cases h2 : l = 2
  · subst h2; exact impl_LoopMany2 w
  · have z2 : (l == 2) = false := by simpa using h2
    by_cases h4 : l = 4
    · subst h4; exact impl_LoopMany4 w
    · have z4 : (l == 4) = false := by simpa using h4
      by_cases h8 : l = 8
      · subst h8
        go_enter Try.func57, Try.ntmps57
        go_wp2_with (go_at_call 57; refine (impl_LoopMany4 _).mono ?_; rintro e w1 ⟨rfl, m1, rfl⟩)
        go_ret
        exact ⟨rfl, _, rfl⟩
      · have z8 : (l == 8) = false := by simpa using h8
        have HE : Hid (lManyI l = -1) := by show _ = _; simp [lManyI, h2, h4, h8]
        clear h2 h4 h8
        go_enter Try.func57, Try.ntmps57
        go_wp2_with fail
        go_ret
        exact ⟨ret_int HE.out.symm, 0, rfl⟩
theorem spec_LoopMany2 (w : World) : Calls Try.prog 55 #[.int .i64 2] w fun e w' => e = .returned (.int .i64 1) ∧ ∃ m, w' = w.drewN m := by
  go_enter Try.func55, Try.ntmps55
  go_wp2_with (go_at_call 48; refine (spec_l3Lines 2 _).mono ?_; rintro e w1 ⟨rfl, m1, rfl⟩; rw [show linesB 2 = true from rfl])
  go_ret
  exact ⟨rfl, _, rfl⟩
theorem spec_LoopMany4 (w : World) : Calls Try.prog 55 #[.int .i64 4] w fun e w' => e = .returned (.int .i64 6) ∧ ∃ m, w' = w.drewN m := by
  go_enter Try.func55, Try.ntmps55
  go_wp2_with (first
    | (go_at_call 48; refine (spec_l3Lines 4 _).mono ?_; rintro e w1 ⟨rfl, m1, rfl⟩; rw [show linesB 4 = true from rfl])
    | (go_at_call 55; refine (spec_LoopMany2 _).mono ?_; rintro e w2 ⟨rfl, m2, rfl⟩))
  go_ret
  exact ⟨rfl, _, rfl⟩
theorem spec_LoopMany (l : Int) (w : World) : Calls Try.prog 55 #[.int .i64 l] w fun e w' => e = .returned (.int .i64 (lManyI l)) ∧ ∃ m, w' = w.drewN m := by
  by_cases h2 : l = 2
  · subst h2; exact spec_LoopMany2 w
  · by_cases h4 : l = 4
    · subst h4; exact spec_LoopMany4 w
    · by_cases h8 : l = 8
      · subst h8
        go_enter Try.func55, Try.ntmps55
        go_wp2_with (first
          | (go_at_call 48; refine (spec_l3Lines 8 _).mono ?_; rintro e w1 ⟨rfl, m1, rfl⟩; rw [show linesB 8 = true from rfl])
          | (go_at_call 55; refine (spec_LoopMany4 _).mono ?_; rintro e w2 ⟨rfl, m2, rfl⟩))
        go_ret
        exact ⟨rfl, _, rfl⟩
      · have HE : Hid (lManyI l = -1) := by show _ = _; simp [lManyI, h2, h4, h8]
        have HF : Hid (linesB l = false) := by show _ = _; simp [linesB, h2, h4, h8]
        clear h2 h4 h8
        go_enter Try.func55, Try.ntmps55
        go_wp2_with (go_at_call 48; refine (spec_l3Lines l _).mono ?_; rintro e w1 ⟨rfl, m1, rfl⟩; rw [HF.out])
        go_ret
        exact ⟨ret_int HE.out.symm, _, rfl⟩
theorem impl_StepMany (l : Int) (w : World) : Calls Try.prog 53 #[.int .i64 l] w fun e w' => e = .returned (.int .i64 (sManyI l)) ∧ ∃ m, w' = w.drewN m := by
  rcases lines_cases l with ⟨h1, -, h3, -⟩ | ⟨n, st, rfl, hN, h1, -, h3⟩
  · have H1 := Lib.hid h1
    have H3 := Lib.hid h3
    clear h1 h3
    go_enter Try.func53, Try.ntmps53
    go_wp2_with (go_at_call 47; refine (impl_stepsOf l _).mono ?_; rintro e w1 ⟨rfl, m1, rfl⟩; rw [H1.out])
    go_ret
    exact ⟨ret_int H3.out.symm, _, rfl⟩
  · clear h1 h3
    rcases hN with ⟨rfl, rfl⟩ | ⟨rfl, rfl⟩ | ⟨rfl, rfl⟩
    · go_enter Try.func53, Try.ntmps53
      go_wp2_with (go_at_call 47; refine (impl_stepsOf 2 _).mono ?_; rintro e w1 ⟨rfl, m1, rfl⟩; rw [show stepsI 2 = 1 from rfl])
      go_ret
      exact ⟨rfl, _, rfl⟩
    · go_enter Try.func53, Try.ntmps53
      go_wp2_with (go_at_call 47; refine (impl_stepsOf 4 _).mono ?_; rintro e w1 ⟨rfl, m1, rfl⟩; rw [show stepsI 4 = 2 from rfl])
      go_ret
      exact ⟨rfl, _, rfl⟩
    · go_enter Try.func53, Try.ntmps53
      go_wp2_with (go_at_call 47; refine (impl_stepsOf 8 _).mono ?_; rintro e w1 ⟨rfl, m1, rfl⟩; rw [show stepsI 8 = 3 from rfl])
      go_ret
      exact ⟨rfl, _, rfl⟩
theorem spec_StepMany (l : Int) (w : World) : Calls Try.prog 52 #[.int .i64 l] w fun e w' => e = .returned (.int .i64 (sManyI l)) ∧ ∃ m, w' = w.drewN m := by
  rcases lines_cases l with ⟨-, h1, h3, -⟩ | ⟨n, st, rfl, hN, h1, -, h3⟩
  · have H1 := Lib.hid h1
    have H3 := Lib.hid h3
    clear h1 h3
    go_enter Try.func52, Try.ntmps52
    go_wp2_with (go_at_call 48; refine (spec_l3Lines l _).mono ?_; rintro e w1 ⟨rfl, m1, rfl⟩; rw [H1.out])
    go_ret
    exact ⟨ret_int H3.out.symm, _, rfl⟩
  · clear h1 h3
    rcases hN with ⟨rfl, rfl⟩ | ⟨rfl, rfl⟩ | ⟨rfl, rfl⟩
    · go_enter Try.func52, Try.ntmps52
      go_wp2_with (first
        | (go_at_call 48; refine (spec_l3Lines 2 _).mono ?_; rintro e w1 ⟨rfl, m1, rfl⟩; rw [show linesB 2 = true from rfl])
        | (go_at_call 50; refine (spec_l3Log 2 1 _ (.inl ⟨rfl, rfl⟩)).mono ?_; rintro e w2 ⟨rfl, m2, rfl⟩))
      go_ret
      exact ⟨rfl, _, rfl⟩
    · go_enter Try.func52, Try.ntmps52
      go_wp2_with (first
        | (go_at_call 48; refine (spec_l3Lines 4 _).mono ?_; rintro e w1 ⟨rfl, m1, rfl⟩; rw [show linesB 4 = true from rfl])
        | (go_at_call 50; refine (spec_l3Log 4 2 _ (.inr (.inl ⟨rfl, rfl⟩))).mono ?_; rintro e w2 ⟨rfl, m2, rfl⟩))
      go_ret
      exact ⟨rfl, _, rfl⟩
    · go_enter Try.func52, Try.ntmps52
      go_wp2_with (first
        | (go_at_call 48; refine (spec_l3Lines 8 _).mono ?_; rintro e w1 ⟨rfl, m1, rfl⟩; rw [show linesB 8 = true from rfl])
        | (go_at_call 50; refine (spec_l3Log 8 3 _ (.inr (.inr ⟨rfl, rfl⟩))).mono ?_; rintro e w2 ⟨rfl, m2, rfl⟩))
      go_ret
      exact ⟨rfl, _, rfl⟩
def bitI (b : Bool) : Int := if b then 1 else 0
theorem impl_bit (b : Bool) (w : World) : Calls Try.prog 58 #[.bool b] w fun e w' => e = .returned (.int .i64 (bitI b)) ∧ ∃ m, w' = w.drewN m := by
  cases b
  all_goals
    go_enter Try.func58, Try.ntmps58
    go_wp2
    go_ret
    exact ⟨rfl, 0, rfl⟩
theorem impl_shuffled (n st l : Nat) (w : World) (h : NetOk n st) (hl : l < n) : Calls Try.prog 54 #[.int .i64 (n : Int), .int .i64 (l : Int)] w fun e w' => e = .returned (.int .i64 (shuf n l)) ∧ ∃ m, w' = w.drewN m := by
  obtain ⟨h1, h2, h3, h4⟩ := net_bd h
  by_cases hh : l < n / 2
  · have HE : Hid (shuf n l = 2 * l) := by show _ = _; unfold shuf; rw [if_pos hh]
    clear h
    go_enter Try.func54, Try.ntmps54
    go_wp2
    go_ret
    exact ⟨ret_int (by rw [HE.out]; omega), 0, rfl⟩
  · have HE : Hid (((shuf n l : Nat) : Int) = 2 * (l : Int) - n + 1) := by show _ = _; unfold shuf; rw [if_neg hh]; omega
    clear h
    go_enter Try.func54, Try.ntmps54
    go_wp2
    go_ret
    exact ⟨ret_int (by rw [HE.out]), 0, rfl⟩
end Go.Proofs.Ytiahpaakkijejaa
