/- ShareSum and DialCost, in the program and in the reference, answer one and the same plain function. Condition: lists of at most 1048576 numbers. -/
import Derived.Test.Ytplalcciodbddaa6v
namespace Go.Proofs.Ytplalcciodbddaa
open Go.RowKit
set_option linter.unusedSimpArgs false
set_option linter.unusedVariables false

def sumL {α : Type} (f : α → Int) (xs : List α) : Int := (xs.map f).sum
theorem sumL_snoc {α : Type} {f : α → Int} {xs : List α} {k : Nat} {x : α} (h : xs[k]? = some x) : sumL f (xs.take (k + 1)) = sumL f (xs.take k) + f x := by
  rw [sumL, take_snoc h, List.map_append, List.sum_append]; simp [sumL]
theorem sumL_done {α : Type} {f : α → Int} {xs : List α} {k : Nat} (hk : xs.length ≤ k) : sumL f (xs.take k) = sumL f xs := by rw [List.take_of_length_le hk]
theorem all_at {α : Type} {p : α → Bool} {xs : List α} {k : Nat} {x : α} (h : xs[k]? = some x) (ha : xs.all p = true) : p x = true := by
  rw [List.all_eq_true] at ha; exact ha x (List.mem_of_getElem? h)
def pw (k : Nat) : Int := 4 ^ k
theorem pw_succ (k : Nat) : pw (k + 1) = pw k * 4 := by unfold pw; rw [Int.pow_succ]
theorem pw_small (k : Nat) (h : k ≤ 3) : 1 ≤ pw k ∧ pw k ≤ 64 := by
  rcases (by omega : k = 0 ∨ k = 1 ∨ k = 2 ∨ k = 3) with rfl | rfl | rfl | rfl <;> decide

theorem spec_l6Power (N : Nat) (w : World) (hN : N ≤ 3) : Calls Try.prog 47 #[.int .i64 (N : Int)] w fun e w' => e = .returned (.int .i64 (pw N)) ∧ ∃ m, w' = w.drewN m := by
  go_enter Try.func47, Try.ntmps47
  go_wp2
  go_loopg [3, 4] N (fun g s i wr => ∃ (k : Nat) (S : Int), k ≤ N ∧ g = N - k ∧ i = .int .i64 k ∧ s = .int .i64 S ∧ Hid (S = pw k) ∧ wr = w)
  case atStart => exact ⟨0, 1, Nat.zero_le _, rfl, rfl, rfl, rfl, rfl⟩
  case round =>
    obtain ⟨k, S, hk, rfl, rfl, rfl, HS, rfl⟩ := hrel
    have hb : 1 ≤ S ∧ S ≤ 64 := by rw [HS.out]; exact pw_small k (by omega)
    obtain ⟨hb1, hb2⟩ := hb
    by_cases hlt : k < N
    · go_wp2
      go_roundg (N - (k + 1))
      case rel => exact ⟨k + 1, S * 4, by omega, rfl, by go_num, rfl, (by show _ = _; rw [HS.out, pw_succ]), rfl⟩
      case measure => omega
    · go_wp2
      go_ret
      obtain rfl : k = N := by omega
      exact ⟨ret_int HS.out, 0, rfl⟩
theorem impl_shareOf (N : Nat) (w : World) (hN : N ≤ 3) : Calls Try.prog 48 #[.int .i64 ((3 : Int) - N)] w fun e w' => e = .returned (.int .i64 (pw N)) ∧ ∃ m, w' = w.drewN m := by
  have e3 : (3 : Int) - ((3 : Int) - N) = N := by omega
  go_enter Try.func48, Try.ntmps48
  go_wp2
  clear e3
  go_loopg [3, 6] N (fun g s i wr => ∃ (k : Nat) (S : Int), k ≤ N ∧ g = N - k ∧ i = .int .i64 k ∧ s = .int .i64 S ∧ Hid (S = pw k) ∧ wr = w)
  case atStart => exact ⟨0, 1, Nat.zero_le _, rfl, rfl, rfl, rfl, rfl⟩
  case round =>
    obtain ⟨k, S, hk, rfl, rfl, rfl, HS, rfl⟩ := hrel
    have hb : 1 ≤ S ∧ S ≤ 64 := by rw [HS.out]; exact pw_small k (by omega)
    obtain ⟨hb1, hb2⟩ := hb
    by_cases hlt : k < N
    · go_wp2
      go_roundg (N - (k + 1))
      case rel => exact ⟨k + 1, S * 4, by omega, rfl, by go_num, rfl, (by show _ = _; rw [HS.out, pw_succ]), rfl⟩
      case measure => omega
    · go_wp2
      go_ret
      obtain rfl : k = N := by omega
      exact ⟨ret_int HS.out, 0, rfl⟩

def shareI (x : Int) : Int := pw (3 - x).toNat
theorem shareI_small (x : Int) (h : inB x 1 3 = true) : 1 ≤ shareI x ∧ shareI x ≤ 64 := pw_small _ (by simp [inB] at h; omega)
theorem share_sum_bd {xs : List Int} {k : Nat} (h : xs.all (fun x => inB x 1 3) = true) : 0 ≤ sumL shareI (xs.take k) ∧ sumL shareI (xs.take k) ≤ 64 * k := by
  induction k with
  | zero => simp [sumL]
  | succ k ih =>
    cases hx : xs[k]? with
    | none =>
      rw [List.take_of_length_le (by have := List.getElem?_eq_none_iff.1 hx; omega)]
      rw [List.take_of_length_le (by have := List.getElem?_eq_none_iff.1 hx; omega)] at ih
      omega
    | some x =>
      have := shareI_small x (all_at (p := fun x => inB x 1 3) hx h)
      rw [sumL_snoc hx]; omega
def shareSum (xs : List Int) : Int := if lengthsB xs = true then sumL shareI xs else -1

theorem spec_ShareSum (A : Option Addr) (n c : Nat) (xs : List Int) (w : World) (hx : RdL iv w A n xs) (hn : n ≤ 1048576) :
    Calls Try.prog 24 #[.slice A n c] w fun e w' => e = .returned (.int .i64 (shareSum xs)) ∧ ∃ m, w' = w.drewN m := by
  have HL := hx.len
  cases hv : lengthsB xs with
  | false =>
    have HV := Lib.hid hv; clear hv
    go_enter Try.func24, Try.ntmps24
    go_wp2_with fail
    refine (spec_LengthsValid A n c xs w hx hn).mono ?_
    rintro e w2 ⟨rfl, m2, rfl⟩
    rw [HV.out]
    go_wp2
    go_ret
    exact ⟨ret_int (by rw [shareSum, HV.out]; rfl), _, rfl⟩
  | true =>
    have HV := Lib.hid hv
    have HA : Hid (xs.all (fun x => inB x 1 3) = true) := by unfold lengthsB at hv; simp only [Bool.and_eq_true] at hv; exact hv.1
    have h10 : n ≤ 10 := by unfold lengthsB at hv; simp only [Bool.and_eq_true, decide_eq_true_eq] at hv; have := hv.2; have := HL.out; omega
    clear hv
    go_enter Try.func24, Try.ntmps24
    go_wp2_with fail
    refine (spec_LengthsValid A n c xs w hx hn).mono ?_
    rintro e w2 ⟨rfl, m2, rfl⟩
    rw [HV.out]
    go_wp2
    go_loopg [3, 4] n (fun g s i wr => ∃ (k m : Nat) (S : Int), k ≤ n ∧ g = n - k ∧ i = .int .i64 k ∧ s = .int .i64 S ∧ Hid (S = sumL shareI (xs.take k)) ∧ wr = w.drewN m)
    case atStart => exact ⟨0, m2, 0, Nat.zero_le _, rfl, rfl, rfl, rfl, rfl⟩
    case round =>
      obtain ⟨k, m, S, hk, rfl, rfl, rfl, HS, rfl⟩ := hrel
      have hb : 0 ≤ S ∧ S ≤ 64 * k := by rw [HS.out]; exact share_sum_bd HA.out
      obtain ⟨hb1, hb2⟩ := hb
      by_cases hlt : k < n
      · obtain ⟨b, off, x, rfl, HX, g⟩ := hx.at hlt
        have hix : inB x 1 3 = true := all_at (p := fun x => inB x 1 3) HX.out HA.out
        have hx1 : 1 ≤ x ∧ x ≤ 3 := by simpa [inB] using hix
        have HSB := Lib.hid (shareI_small x hix)
        have HE : Hid ((3 : Int) - x = ((3 - x).toNat : Int)) := by show _ = _; omega
        clear hix
        obtain ⟨hx1, hx3⟩ := hx1
        go_wp2_with fail
        rw [HE.out]
        refine (spec_l6Power (3 - x).toNat _ (by omega)).mono ?_
        rintro e w3 ⟨rfl, m3, rfl⟩
        obtain ⟨P, HP⟩ : ∃ P, Hid (pw (3 - x).toNat = P) := ⟨_, rfl⟩
        have hpb : 1 ≤ P ∧ P ≤ 64 := by rw [← HP.out]; exact HSB.out
        obtain ⟨hp1, hp2⟩ := hpb
        rw [HP.out]
        go_wp2
        go_roundg (n - (k + 1))
        case rel => exact ⟨k + 1, m + m3, S + P, by omega, rfl, by go_num, rfl, (by show _ = _; rw [sumL_snoc HX.out, HS.out, shareI, HP.out]), by simp⟩
        case measure => omega
      · go_wp2
        go_ret
        exact ⟨ret_int (by rw [shareSum, HV.out, HS.out, sumL_done (by rw [HL.out]; omega)]; rfl), _, rfl⟩

theorem impl_ShareSum (A : Option Addr) (n c : Nat) (xs : List Int) (w : World) (hx : RdL iv w A n xs) (hn : n ≤ 1048576) :
    Calls Try.prog 25 #[.slice A n c] w fun e w' => e = .returned (.int .i64 (shareSum xs)) ∧ ∃ m, w' = w.drewN m := by
  have HL := hx.len
  cases hv : lengthsB xs with
  | false =>
    have HV := Lib.hid hv; clear hv
    go_enter Try.func25, Try.ntmps25
    go_wp2_with fail
    refine (impl_LengthsValid A n c xs w hx hn).mono ?_
    rintro e w2 ⟨rfl, m2, rfl⟩
    rw [HV.out]
    go_wp2
    go_ret
    exact ⟨ret_int (by rw [shareSum, HV.out]; rfl), _, rfl⟩
  | true =>
    have HV := Lib.hid hv
    have HA : Hid (xs.all (fun x => inB x 1 3) = true) := by unfold lengthsB at hv; simp only [Bool.and_eq_true] at hv; exact hv.1
    have h10 : n ≤ 10 := by unfold lengthsB at hv; simp only [Bool.and_eq_true, decide_eq_true_eq] at hv; have := hv.2; have := HL.out; omega
    clear hv
    go_enter Try.func25, Try.ntmps25
    go_wp2_with fail
    refine (impl_LengthsValid A n c xs w hx hn).mono ?_
    rintro e w2 ⟨rfl, m2, rfl⟩
    rw [HV.out]
    go_wp2
    go_loopg [3, 11] n (fun g s i wr => ∃ (k m : Nat) (S : Int), k ≤ n ∧ g = n - k ∧ i = .int .i64 k ∧ s = .int .i64 S ∧ Hid (S = sumL shareI (xs.take k)) ∧ wr = w.drewN m)
    case atStart => exact ⟨0, m2, 0, Nat.zero_le _, rfl, rfl, rfl, rfl, rfl⟩
    case round =>
      obtain ⟨k, m, S, hk, rfl, rfl, rfl, HS, rfl⟩ := hrel
      have hb : 0 ≤ S ∧ S ≤ 64 * k := by rw [HS.out]; exact share_sum_bd HA.out
      obtain ⟨hb1, hb2⟩ := hb
      by_cases hlt : k < n
      · obtain ⟨b, off, x, rfl, HX, g⟩ := hx.at hlt
        have hix : inB x 1 3 = true := all_at (p := fun x => inB x 1 3) HX.out HA.out
        have hx1 : 1 ≤ x ∧ x ≤ 3 := by simpa [inB] using hix
        have HSB := Lib.hid (shareI_small x hix)
        have HE : Hid (x = (3 : Int) - ((3 - x).toNat : Int)) := by show _ = _; omega
        clear hix
        obtain ⟨hx1, hx3⟩ := hx1
        obtain ⟨N, HN⟩ : ∃ N : Nat, Hid ((3 - x).toNat = N) := ⟨_, rfl⟩
        have hN : N ≤ 3 := by have := HN.out; omega
        have HE2 : Hid (x = (3 : Int) - (N : Int)) := by show _ = _; have := HN.out; omega
        go_wp2_with fail
        rw [HE2.out]
        refine (impl_shareOf N _ hN).mono ?_
        rintro e w3 ⟨rfl, m3, rfl⟩
        obtain ⟨P, HP⟩ : ∃ P, Hid (pw N = P) := ⟨_, rfl⟩
        have hpb : 1 ≤ P ∧ P ≤ 64 := by rw [← HP.out]; exact pw_small N hN
        obtain ⟨hp1, hp2⟩ := hpb
        rw [HP.out]
        go_wp2
        go_roundg (n - (k + 1))
        case rel => exact ⟨k + 1, m + m3, S + P, by omega, rfl, by go_num, rfl, (by show _ = _; rw [sumL_snoc HX.out, HS.out, shareI, HN.out, HP.out]), by simp⟩
        case measure => omega
      · go_wp2
        go_ret
        exact ⟨ret_int (by rw [shareSum, HV.out, HS.out, sumL_done (by rw [HL.out]; omega)]; rfl), _, rfl⟩

def mulP (p : Int × Int) : Int := p.1 * p.2
def dialCost (xs ys : List Int) : Int := if (oftenB xs && lengthsB ys && decide (xs.length = ys.length)) = true then sumL mulP (xs.zip ys) else -1
theorem zip_at {xs ys : List Int} {k : Nat} {x y : Int} (hx : xs[k]? = some x) (hy : ys[k]? = some y) : (xs.zip ys)[k]? = some (x, y) := by
  rw [List.getElem?_zip_eq_some]; exact ⟨hx, hy⟩
theorem mul_bd (x y : Int) (h1 : 0 ≤ x) (h2 : x ≤ 99) (h3 : 1 ≤ y) (h4 : y ≤ 3) : 0 ≤ x * y ∧ x * y ≤ 297 := by
  rcases (by omega : y = 1 ∨ y = 2 ∨ y = 3) with rfl | rfl | rfl <;> omega
theorem cost_bd {xs ys : List Int} {k : Nat} (h : xs.all (fun x => inB x 0 99) = true) (h' : ys.all (fun x => inB x 1 3) = true) : 0 ≤ sumL mulP ((xs.zip ys).take k) ∧ sumL mulP ((xs.zip ys).take k) ≤ 297 * k := by
  induction k with
  | zero => simp [sumL]
  | succ k ih =>
    cases hx : (xs.zip ys)[k]? with
    | none =>
      rw [List.take_of_length_le (by have := List.getElem?_eq_none_iff.1 hx; omega)]
      rw [List.take_of_length_le (by have := List.getElem?_eq_none_iff.1 hx; omega)] at ih
      omega
    | some p =>
      obtain ⟨hp1, hp2⟩ := List.getElem?_zip_eq_some.1 hx
      have a1 : 0 ≤ p.1 ∧ p.1 ≤ 99 := by simpa [inB] using all_at (p := fun x => inB x 0 99) hp1 h
      have a2 : 1 ≤ p.2 ∧ p.2 ≤ 3 := by simpa [inB] using all_at (p := fun x => inB x 1 3) hp2 h'
      have := mul_bd p.1 p.2 a1.1 a1.2 a2.1 a2.2
      rw [sumL_snoc hx]
      have e : mulP p = p.1 * p.2 := rfl
      omega

theorem spec_DialCost (A A' : Option Addr) (n n' c c' : Nat) (xs ys : List Int) (w : World) (hx : RdL iv w A n xs) (hy : RdL iv w A' n' ys) (hn : n ≤ 1048576) (hn' : n' ≤ 1048576) :
    Calls Try.prog 27 #[.slice A n c, .slice A' n' c'] w fun e w' => e = .returned (.int .i64 (dialCost xs ys)) ∧ ∃ m, w' = w.drewN m := by
  have HL := hx.len
  have HL' := hy.len
  cases hv : oftenB xs with
  | false =>
    have HV := Lib.hid hv; clear hv
    go_enter Try.func27, Try.ntmps27
    go_wp2_with fail
    refine (spec_OftenValid A n c xs w hx hn).mono ?_
    rintro e w2 ⟨rfl, m2, rfl⟩
    rw [HV.out]
    go_wp2
    go_ret
    exact ⟨ret_int (by rw [dialCost, HV.out]; rfl), _, rfl⟩
  | true =>
    have HV := Lib.hid hv
    have HA : Hid (xs.all (fun x => inB x 0 99) = true) := by unfold oftenB at hv; simp only [Bool.and_eq_true] at hv; exact hv.1
    have h10 : n ≤ 10 := by unfold oftenB at hv; simp only [Bool.and_eq_true, decide_eq_true_eq] at hv; have := hv.2.2; have := HL.out; omega
    clear hv
    cases hv : lengthsB ys with
    | false =>
      have HV' := Lib.hid hv; clear hv
      go_enter Try.func27, Try.ntmps27
      go_wp2_with fail
      refine (spec_OftenValid A n c xs w hx hn).mono ?_
      rintro e w2 ⟨rfl, m2, rfl⟩
      rw [HV.out]
      go_wp2_with fail
      refine (spec_LengthsValid A' n' c' ys _ (hy.drewN _) hn').mono ?_
      rintro e w3 ⟨rfl, m3, rfl⟩
      rw [HV'.out]
      go_wp2
      go_ret
      exact ⟨ret_int (by rw [dialCost, HV.out, HV'.out]; rfl), m2 + m3, by simp⟩
    | true =>
      have HV' := Lib.hid hv
      have HA' : Hid (ys.all (fun x => inB x 1 3) = true) := by unfold lengthsB at hv; simp only [Bool.and_eq_true] at hv; exact hv.1
      clear hv
      by_cases hne : n = n'
      · subst hne
        go_enter Try.func27, Try.ntmps27
        go_wp2_with fail
        refine (spec_OftenValid A n c xs w hx hn).mono ?_
        rintro e w2 ⟨rfl, m2, rfl⟩
        rw [HV.out]
        go_wp2_with fail
        refine (spec_LengthsValid A' n c' ys _ (hy.drewN _) hn').mono ?_
        rintro e w3 ⟨rfl, m3, rfl⟩
        rw [HV'.out]
        go_wp2
        go_loopg [5, 6] n (fun g s i wr => ∃ (k m : Nat) (S : Int), k ≤ n ∧ g = n - k ∧ i = .int .i64 k ∧ s = .int .i64 S ∧ Hid (S = sumL mulP ((xs.zip ys).take k)) ∧ wr = w.drewN m)
        case atStart => exact ⟨0, m2 + m3, 0, Nat.zero_le _, rfl, rfl, rfl, rfl, by simp⟩
        case round =>
          obtain ⟨k, m, S, hk, rfl, rfl, rfl, HS, rfl⟩ := hrel
          have hb : 0 ≤ S ∧ S ≤ 297 * k := by rw [HS.out]; exact cost_bd HA.out HA'.out
          obtain ⟨hb1, hb2⟩ := hb
          by_cases hlt : k < n
          · obtain ⟨b, off, x, rfl, HX, g⟩ := hx.at hlt
            obtain ⟨b', off', y, rfl, HY, g'⟩ := hy.at hlt
            have hx1 : 0 ≤ x ∧ x ≤ 99 := by simpa [inB] using all_at (p := fun x => inB x 0 99) HX.out HA.out
            have hy1 : 1 ≤ y ∧ y ≤ 3 := by simpa [inB] using all_at (p := fun x => inB x 1 3) HY.out HA'.out
            have hp : 0 ≤ x * y ∧ x * y ≤ 297 := mul_bd x y hx1.1 hx1.2 hy1.1 hy1.2
            obtain ⟨hx1, hx2⟩ := hx1
            obtain ⟨hy1, hy2⟩ := hy1
            obtain ⟨hp1, hp2⟩ := hp
            go_wp2
            go_quiet (fail)
            go_wp2
            go_roundg (n - (k + 1))
            case rel => exact ⟨k + 1, _, S + x * y, by omega, rfl, by go_num, rfl, (by show _ = _; rw [sumL_snoc (zip_at HX.out HY.out), HS.out]; rfl), rfl⟩
            case measure => omega
          · go_wp2
            go_ret
            exact ⟨ret_int (by rw [dialCost, HV.out, HV'.out, HS.out, sumL_done (by rw [List.length_zip, HL.out, HL'.out]; omega), HL.out, HL'.out]; simp), _, rfl⟩
      · have hnz : ((n' : Int) != (n : Int)) = true := by rw [bne_iff_ne]; omega
        have hnz' : ((n : Int) != (n' : Int)) = true := by rw [bne_iff_ne]; omega
        go_enter Try.func27, Try.ntmps27
        go_wp2_with fail
        refine (spec_OftenValid A n c xs w hx hn).mono ?_
        rintro e w2 ⟨rfl, m2, rfl⟩
        rw [HV.out]
        go_wp2_with fail
        refine (spec_LengthsValid A' n' c' ys _ (hy.drewN _) hn').mono ?_
        rintro e w3 ⟨rfl, m3, rfl⟩
        rw [HV'.out]
        go_wp2
        go_ret
        exact ⟨ret_int (by rw [dialCost, HL.out, HL'.out, decide_eq_false hne]; simp), m2 + m3, by simp⟩

theorem impl_DialCost (A A' : Option Addr) (n n' c c' : Nat) (xs ys : List Int) (w : World) (hx : RdL iv w A n xs) (hy : RdL iv w A' n' ys) (hn : n ≤ 1048576) (hn' : n' ≤ 1048576) :
    Calls Try.prog 28 #[.slice A n c, .slice A' n' c'] w fun e w' => e = .returned (.int .i64 (dialCost xs ys)) ∧ ∃ m, w' = w.drewN m := by
  have HL := hx.len
  have HL' := hy.len
  cases hv : oftenB xs with
  | false =>
    have HV := Lib.hid hv; clear hv
    go_enter Try.func28, Try.ntmps28
    go_wp2_with fail
    refine (impl_OftenValid A n c xs w hx hn).mono ?_
    rintro e w2 ⟨rfl, m2, rfl⟩
    rw [HV.out]
    go_wp2
    go_ret
    exact ⟨ret_int (by rw [dialCost, HV.out]; rfl), _, rfl⟩
  | true =>
    have HV := Lib.hid hv
    have HA : Hid (xs.all (fun x => inB x 0 99) = true) := by unfold oftenB at hv; simp only [Bool.and_eq_true] at hv; exact hv.1
    have h10 : n ≤ 10 := by unfold oftenB at hv; simp only [Bool.and_eq_true, decide_eq_true_eq] at hv; have := hv.2.2; have := HL.out; omega
    clear hv
    cases hv : lengthsB ys with
    | false =>
      have HV' := Lib.hid hv; clear hv
      go_enter Try.func28, Try.ntmps28
      go_wp2_with fail
      refine (impl_OftenValid A n c xs w hx hn).mono ?_
      rintro e w2 ⟨rfl, m2, rfl⟩
      rw [HV.out]
      go_wp2_with fail
      refine (impl_LengthsValid A' n' c' ys _ (hy.drewN _) hn').mono ?_
      rintro e w3 ⟨rfl, m3, rfl⟩
      rw [HV'.out]
      go_wp2
      go_ret
      exact ⟨ret_int (by rw [dialCost, HV.out, HV'.out]; rfl), m2 + m3, by simp⟩
    | true =>
      have HV' := Lib.hid hv
      have HA' : Hid (ys.all (fun x => inB x 1 3) = true) := by unfold lengthsB at hv; simp only [Bool.and_eq_true] at hv; exact hv.1
      clear hv
      by_cases hne : n = n'
      · subst hne
        go_enter Try.func28, Try.ntmps28
        go_wp2_with fail
        refine (impl_OftenValid A n c xs w hx hn).mono ?_
        rintro e w2 ⟨rfl, m2, rfl⟩
        rw [HV.out]
        go_wp2_with fail
        refine (impl_LengthsValid A' n c' ys _ (hy.drewN _) hn').mono ?_
        rintro e w3 ⟨rfl, m3, rfl⟩
        rw [HV'.out]
        go_wp2
        go_loopg [5, 25] n (fun g s i wr => ∃ (k m : Nat) (S : Int), k ≤ n ∧ g = n - k ∧ i = .int .i64 k ∧ s = .int .i64 S ∧ Hid (S = sumL mulP ((xs.zip ys).take k)) ∧ wr = w.drewN m)
        case atStart => exact ⟨0, m2 + m3, 0, Nat.zero_le _, rfl, rfl, rfl, rfl, by simp⟩
        case round =>
          obtain ⟨k, m, S, hk, rfl, rfl, rfl, HS, rfl⟩ := hrel
          have hb : 0 ≤ S ∧ S ≤ 297 * k := by rw [HS.out]; exact cost_bd HA.out HA'.out
          obtain ⟨hb1, hb2⟩ := hb
          by_cases hlt : k < n
          · obtain ⟨b, off, x, rfl, HX, g⟩ := hx.at hlt
            obtain ⟨b', off', y, rfl, HY, g'⟩ := hy.at hlt
            have hx1 : 0 ≤ x ∧ x ≤ 99 := by simpa [inB] using all_at (p := fun x => inB x 0 99) HX.out HA.out
            have hy1 : 1 ≤ y ∧ y ≤ 3 := by simpa [inB] using all_at (p := fun x => inB x 1 3) HY.out HA'.out
            have hp : 0 ≤ x * y ∧ x * y ≤ 297 := mul_bd x y hx1.1 hx1.2 hy1.1 hy1.2
            obtain ⟨hx1, hx2⟩ := hx1
            obtain ⟨hy1, hy2⟩ := hy1
            obtain ⟨hp1, hp2⟩ := hp
            go_wp2
            skip
            go_roundg (n - (k + 1))
            case rel => exact ⟨k + 1, _, S + x * y, by omega, rfl, by go_num, rfl, (by show _ = _; rw [sumL_snoc (zip_at HX.out HY.out), HS.out]; rfl), rfl⟩
            case measure => omega
          · go_wp2
            go_ret
            exact ⟨ret_int (by rw [dialCost, HV.out, HV'.out, HS.out, sumL_done (by rw [List.length_zip, HL.out, HL'.out]; omega), HL.out, HL'.out]; simp), _, rfl⟩
      · have hnz : ((n' : Int) != (n : Int)) = true := by rw [bne_iff_ne]; omega
        have hnz' : ((n : Int) != (n' : Int)) = true := by rw [bne_iff_ne]; omega
        go_enter Try.func28, Try.ntmps28
        go_wp2_with fail
        refine (impl_OftenValid A n c xs w hx hn).mono ?_
        rintro e w2 ⟨rfl, m2, rfl⟩
        rw [HV.out]
        go_wp2_with fail
        refine (impl_LengthsValid A' n' c' ys _ (hy.drewN _) hn').mono ?_
        rintro e w3 ⟨rfl, m3, rfl⟩
        rw [HV'.out]
        go_wp2
        go_ret
        exact ⟨ret_int (by rw [dialCost, HL.out, HL'.out, decide_eq_false hne]; simp), m2 + m3, by simp⟩
end Go.Proofs.Ytplalcciodbddaa
