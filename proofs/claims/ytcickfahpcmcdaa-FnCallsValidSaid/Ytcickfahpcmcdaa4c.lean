/- Calls: how a slice of calls reads, and the contracts of toCall, toCallS, szCallS, eqCall, eqCallS and CallsMoved. Condition: at most 1048576 calls. -/
import Derived.Test.YtcickfahpcmcdaaCom
import Derived.Test.YtcickfahpcmcdaaMem2
import Derived.Test.Ytcickfahpcmcdaa4n
namespace Go.Proofs.Ytcickfahpcmcdaa
open Go.RowKit
set_option linter.unusedSimpArgs false
set_option linter.unusedVariables false

def clv (c : Cl) : List Value := [.int .i64 c.i, .int .i64 c.o, .int .i64 c.v]
theorem clv_len (c : Cl) : (clv c).length = 3 := rfl
abbrev RdC := RdM 3 clv
abbrev OwnC := OwnM 3 clv
/-- A call as a value. -/
abbrev cav (c : Cl) : Value := .agg #[.int .i64 c.i, .int .i64 c.o, .int .i64 c.v]
theorem RdC.at {w : World} {A : Option Addr} {n : Nat} {ys : List Cl} (h : RdC w A n ys) {k : Nat} (hk : k < n) :
    ∃ b off y, A = some ⟨b, off, none⟩ ∧ Hid (ys[k]? = some y) ∧ w.cell? ⟨b, off + k * 3, none⟩ = some (.int .i64 y.i) ∧ w.cell? ⟨b, off + k * 3 + 1, none⟩ = some (.int .i64 y.o) ∧ w.cell? ⟨b, off + k * 3 + 2, none⟩ = some (.int .i64 y.v) := by
  obtain ⟨b, off, y, hA, hy, hc⟩ := RdM.at h hk
  exact ⟨b, off, y, hA, hy, hc 0 _ rfl, hc 1 _ rfl, hc 2 _ rfl⟩
theorem OwnC.at {w : World} {B : Nat} {e : TypeId} {A : Option Addr} {n c : Nat} {ys : List Cl} (h : OwnC w B e A n c ys) {k : Nat} (hk : k < n) :
    ∃ g y, A = some ⟨g, 0, none⟩ ∧ B ≤ g ∧ g < w.heap.size ∧ Hid (ys[k]? = some y) ∧ w.cell? ⟨g, k * 3, none⟩ = some (.int .i64 y.i) ∧ w.cell? ⟨g, k * 3 + 1, none⟩ = some (.int .i64 y.o) ∧ w.cell? ⟨g, k * 3 + 2, none⟩ = some (.int .i64 y.v) ∧ ∀ j, w.frozen? ⟨g, j, none⟩ = false := by
  obtain ⟨g, y, hA, hB, hg, hy, hc, hf⟩ := OwnM.at clv_len (by omega) h hk
  exact ⟨g, y, hA, hB, hg, hy, hc 0 _ rfl, hc 1 _ rfl, hc 2 _ rfl, hf⟩
theorem OwnC.rd {w : World} {B : Nat} {e : TypeId} {A : Option Addr} {n c : Nat} {ys : List Cl} (h : OwnC w B e A n c ys) : RdC w A n ys := OwnM.rd clv_len (by omega) h
theorem OwnC.len {w : World} {B : Nat} {e : TypeId} {A : Option Addr} {n c : Nat} {ys : List Cl} (h : OwnC w B e A n c ys) : Hid (ys.length = n) := OwnM.len clv_len (by omega) h
/-- A whole call is stored. -/
theorem OwnC.set {w : World} {B g : Nat} {e : TypeId} {n c : Nat} {ys : List Cl} (h : OwnC w B e (some ⟨g, 0, none⟩) n c ys) {k : Nat} {y : Cl} (hy : ys[k]? = some y) (z : Cl) :
    OwnC (((w.setCell ⟨g, k * 3, none⟩ (.int .i64 z.i)).setCell ⟨g, k * 3 + 1, none⟩ (.int .i64 z.o)).setCell ⟨g, k * 3 + 2, none⟩ (.int .i64 z.v)) B e (some ⟨g, 0, none⟩) n c (ys.set k z) := by
  have hl : k < ys.length := (List.getElem?_eq_some_iff.1 hy).1
  have h1 := OwnM.set1 clv_len (j := 0) (y' := ⟨z.i, y.o, y.v⟩) (u := .int .i64 z.i) h hy (by omega) rfl
  have e1 : (ys.set k ⟨z.i, y.o, y.v⟩)[k]? = some ⟨z.i, y.o, y.v⟩ := by simp [hl]
  have h2 := OwnM.set1 clv_len (j := 1) (y' := ⟨z.i, z.o, y.v⟩) (u := .int .i64 z.o) h1 e1 (by omega) rfl
  rw [List.set_set] at h2
  have e2 : (ys.set k ⟨z.i, z.o, y.v⟩)[k]? = some ⟨z.i, z.o, y.v⟩ := by simp [hl]
  have h3 := OwnM.set1 clv_len (j := 2) (y' := z) (u := .int .i64 z.v) h2 e2 (by omega) rfl
  rw [List.set_set] at h3
  exact h3
theorem info_call : (Try.prog.info? 36).map (fun i => (i.zero, i.size, i.bytes)) = some (some (.agg #[.int .i64 0, .int .i64 0, .int .i64 0]), 3, 24) := by kernel_rfl

theorem zip_atC {α β : Type} {xs : List α} {ys : List β} {k : Nat} {x : α} {y : β} (hx : xs[k]? = some x) (hy : ys[k]? = some y) : (xs.zip ys)[k]? = some (x, y) := by
  rw [List.getElem?_zip_eq_some]; exact ⟨hx, hy⟩
def sumL {α : Type} (f : α → Int) (xs : List α) : Int := (xs.map f).sum
theorem sumL_snoc {α : Type} {f : α → Int} {xs : List α} {k : Nat} {x : α} (h : xs[k]? = some x) : sumL f (xs.take (k + 1)) = sumL f (xs.take k) + f x := by
  rw [sumL, take_snoc h, List.map_append, List.sum_append]; simp [sumL]
theorem sumL_done {α : Type} {f : α → Int} {xs : List α} {k : Nat} (hk : xs.length ≤ k) : sumL f (xs.take k) = sumL f xs := by rw [List.take_of_length_le hk]
theorem sumL_bd {α : Type} {f : α → Int} {b : Int} (h0 : 0 ≤ b) (h : ∀ x, 0 ≤ f x ∧ f x ≤ b) (xs : List α) (k : Nat) : 0 ≤ sumL f (xs.take k) ∧ sumL f (xs.take k) ≤ b * k := by
  induction k with
  | zero => simp [sumL]
  | succ k ih =>
    have e : b * ((k + 1 : Nat) : Int) = b * k + b := by rw [Int.natCast_add, Int.mul_add]; simp
    cases hx : xs[k]? with
    | none =>
      have hl := List.getElem?_eq_none_iff.1 hx
      rw [List.take_of_length_le (by omega)]
      rw [List.take_of_length_le (by omega)] at ih
      omega
    | some x =>
      have := h x
      rw [sumL_snoc hx]; omega
def mv1 (p : Cl × Cl) : Int := if p.1.v = p.2.v then 0 else 1
theorem mv1_bd (p : Cl × Cl) : 0 ≤ mv1 p ∧ mv1 p ≤ 1 := by unfold mv1; split <;> omega
theorem movedC_eq (xs ys : List Cl) : movedC xs ys = sumL mv1 (xs.zip ys) := rfl

theorem spec_CallsMoved (A A' : Option Addr) (n n' c c' : Nat) (xs ys : List Cl) (w : World) (hx : RdC w A n xs) (hy : RdC w A' n' ys) (hn : n ≤ 1048576) (hn' : n' ≤ 1048576) :
    Calls Try.prog 35 #[.slice A n c, .slice A' n' c'] w fun e w' => e = .returned (.int .i64 (movedC xs ys)) ∧ ∃ m, w' = w.drewN m := by
  have HL := hx.len
  have HL' := hy.len
  go_enter Try.func35, Try.ntmps35
  go_wp2
  go_loopg [5, 6] n (fun g s i wr => ∃ (k m : Nat) (S : Int), k ≤ n ∧ k ≤ n' ∧ g = n - k ∧ i = .int .i64 k ∧ s = .int .i64 S ∧ Hid (S = sumL mv1 ((xs.zip ys).take k)) ∧ wr = w.drewN m)
  case atStart => exact ⟨0, 0, 0, Nat.zero_le _, Nat.zero_le _, rfl, rfl, rfl, rfl, rfl⟩
  case round =>
    obtain ⟨k, m, S, hk, hk', rfl, rfl, rfl, HS, rfl⟩ := hrel
    have hb : 0 ≤ S ∧ S ≤ 1 * k := by rw [HS.out]; exact sumL_bd (by omega) mv1_bd _ _
    obtain ⟨hb1, hb2⟩ := hb
    by_cases hlt : k < n
    · by_cases hlt' : k < n'
      · obtain ⟨b, off, x, rfl, HX, g0, g1, g2⟩ := RdC.at hx hlt
        obtain ⟨b', off', y, rfl, HY, g0', g1', g2'⟩ := RdC.at hy hlt'
        have HZ : Hid (sumL mv1 ((xs.zip ys).take (k + 1)) = S + mv1 (x, y)) := by show _ = _; rw [sumL_snoc (zip_atC HX.out HY.out), HS.out]
        by_cases hv : x.v = y.v
        · have hz : (x.v != y.v) = false := by simp [hv]
          have HV := Lib.hid hv; clear hv
          go_wp2
          go_quiet (fail)
          go_wp2
          go_roundg (n - (k + 1))
          case rel => exact ⟨k + 1, m + nq, S, by omega, by omega, rfl, by go_num, rfl, (by show _ = _; rw [HZ.out]; simp [mv1, HV.out]), by simp⟩
          case measure => omega
        · have hz : (x.v != y.v) = true := by simp [hv]
          have HV := Lib.hid hv; clear hv
          go_wp2
          go_quiet (fail)
          go_wp2
          go_roundg (n - (k + 1))
          case rel => exact ⟨k + 1, m + nq, S + 1, by omega, by omega, rfl, by go_num, rfl, (by show _ = _; rw [HZ.out]; simp [mv1, HV.out]), by simp⟩
          case measure => omega
      · go_wp2
        go_ret
        exact ⟨ret_int (by rw [movedC_eq, HS.out, sumL_done (by rw [List.length_zip, HL.out, HL'.out]; omega)]), _, rfl⟩
    · go_wp2
      go_ret
      exact ⟨ret_int (by rw [movedC_eq, HS.out, sumL_done (by rw [List.length_zip, HL.out, HL'.out]; omega)]), _, rfl⟩
theorem impl_CallsMoved (A A' : Option Addr) (n n' c c' : Nat) (xs ys : List Cl) (w : World) (hx : RdC w A n xs) (hy : RdC w A' n' ys) (hn : n ≤ 1048576) (hn' : n' ≤ 1048576) :
    Calls Try.prog 21 #[.slice A n c, .slice A' n' c'] w fun e w' => e = .returned (.int .i64 (movedC xs ys)) ∧ ∃ m, w' = w.drewN m := by
  have HL := hx.len
  have HL' := hy.len
  by_cases hmin : n ≤ n'
  · go_enter Try.func21, Try.ntmps21
    go_wp2
    go_loopg [5, 12] n (fun g s i wr => ∃ (k m : Nat) (S : Int), k ≤ n ∧ g = n - k ∧ i = .int .i64 k ∧ s = .int .i64 S ∧ Hid (S = sumL mv1 ((xs.zip ys).take k)) ∧ wr = w.drewN m)
    case atStart => exact ⟨0, 0, 0, Nat.zero_le _, rfl, rfl, rfl, rfl, rfl⟩
    case round =>
      obtain ⟨k, m, S, hk, rfl, rfl, rfl, HS, rfl⟩ := hrel
      have hb : 0 ≤ S ∧ S ≤ 1 * k := by rw [HS.out]; exact sumL_bd (by omega) mv1_bd _ _
      obtain ⟨hb1, hb2⟩ := hb
      by_cases hlt : k < n
      · obtain ⟨b, off, x, rfl, HX, g0, g1, g2⟩ := RdC.at hx (k := k) (by omega)
        obtain ⟨b', off', y, rfl, HY, g0', g1', g2'⟩ := RdC.at hy (k := k) (by omega)
        have HZ : Hid (sumL mv1 ((xs.zip ys).take (k + 1)) = S + mv1 (x, y)) := by show _ = _; rw [sumL_snoc (zip_atC HX.out HY.out), HS.out]
        have hkn : k < n := by omega
        have hkn' : k < n' := by omega
        by_cases hv : x.v = y.v
        · have hz : (x.v != y.v) = false := by simp [hv]
          have HV := Lib.hid hv; clear hv
          go_wp2
          go_quiet (fail)
          go_wp2
          go_roundg (n - (k + 1))
          case rel => exact ⟨k + 1, m + nq, S, by omega, rfl, by go_num, rfl, (by show _ = _; rw [HZ.out]; simp [mv1, HV.out]), by simp⟩
          case measure => omega
        · have hz : (x.v != y.v) = true := by simp [hv]
          have HV := Lib.hid hv; clear hv
          go_wp2
          go_quiet (fail)
          go_wp2
          go_roundg (n - (k + 1))
          case rel => exact ⟨k + 1, m + nq, S + 1, by omega, rfl, by go_num, rfl, (by show _ = _; rw [HZ.out]; simp [mv1, HV.out]), by simp⟩
          case measure => omega
      · go_wp2
        go_ret
        exact ⟨ret_int (by rw [movedC_eq, HS.out, sumL_done (by rw [List.length_zip, HL.out, HL'.out]; omega)]), _, rfl⟩
  · go_enter Try.func21, Try.ntmps21
    go_wp2
    go_loopg [5, 12] n' (fun g s i wr => ∃ (k m : Nat) (S : Int), k ≤ n' ∧ g = n' - k ∧ i = .int .i64 k ∧ s = .int .i64 S ∧ Hid (S = sumL mv1 ((xs.zip ys).take k)) ∧ wr = w.drewN m)
    case atStart => exact ⟨0, 0, 0, Nat.zero_le _, rfl, rfl, rfl, rfl, rfl⟩
    case round =>
      obtain ⟨k, m, S, hk, rfl, rfl, rfl, HS, rfl⟩ := hrel
      have hb : 0 ≤ S ∧ S ≤ 1 * k := by rw [HS.out]; exact sumL_bd (by omega) mv1_bd _ _
      obtain ⟨hb1, hb2⟩ := hb
      by_cases hlt : k < n'
      · obtain ⟨b, off, x, rfl, HX, g0, g1, g2⟩ := RdC.at hx (k := k) (by omega)
        obtain ⟨b', off', y, rfl, HY, g0', g1', g2'⟩ := RdC.at hy (k := k) (by omega)
        have HZ : Hid (sumL mv1 ((xs.zip ys).take (k + 1)) = S + mv1 (x, y)) := by show _ = _; rw [sumL_snoc (zip_atC HX.out HY.out), HS.out]
        have hkn : k < n := by omega
        have hkn' : k < n' := by omega
        by_cases hv : x.v = y.v
        · have hz : (x.v != y.v) = false := by simp [hv]
          have HV := Lib.hid hv; clear hv
          go_wp2
          go_quiet (fail)
          go_wp2
          go_roundg (n' - (k + 1))
          case rel => exact ⟨k + 1, m + nq, S, by omega, rfl, by go_num, rfl, (by show _ = _; rw [HZ.out]; simp [mv1, HV.out]), by simp⟩
          case measure => omega
        · have hz : (x.v != y.v) = true := by simp [hv]
          have HV := Lib.hid hv; clear hv
          go_wp2
          go_quiet (fail)
          go_wp2
          go_roundg (n' - (k + 1))
          case rel => exact ⟨k + 1, m + nq, S + 1, by omega, rfl, by go_num, rfl, (by show _ = _; rw [HZ.out]; simp [mv1, HV.out]), by simp⟩
          case measure => omega
      · go_wp2
        go_ret
        exact ⟨ret_int (by rw [movedC_eq, HS.out, sumL_done (by rw [List.length_zip, HL.out, HL'.out]; omega)]), _, rfl⟩
end Go.Proofs.Ytcickfahpcmcdaa
