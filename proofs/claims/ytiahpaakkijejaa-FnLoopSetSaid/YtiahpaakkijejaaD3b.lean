/- What the draws of chapter 3 hand over. Condition: a code of at most 1048576 bytes. -/
import Derived.Test.YtiahpaakkijejaaD3
import Derived.Test.Ytiahpaakkijejaa3h
namespace Go.Proofs.Ytiahpaakkijejaa
open Go.RowKit
set_option linter.unusedSimpArgs false
set_option linter.unusedVariables false
def ListGot3 (w : World) (x : Ending) (w' : World) : Prop := ∃ (A : Option Addr) (n c : Nat) (xs : List Int), x = .returned (.slice A n c) ∧ n ≤ 8 ∧ OwnL iv w' w.heap.size 3 A n c xs ∧ Below w.heap.size w w'
def SetGot3 (w : World) (x : Ending) (w' : World) : Prop := ∃ (l : Int) (A : Option Addr) (n c : Nat) (bs : List Bool), x = .returned (.tuple #[.int .i64 l, .slice A n c]) ∧ Hid (-2 ≤ l ∧ l ≤ 16) ∧ n ≤ 21 ∧ OwnL bv w' w.heap.size 4 A n c bs ∧ Below w.heap.size w w'
theorem DrawStepClashes_any (A : Option Addr) (n c : Nat) (zs : List Int) (w : World) (hx : RdL uv w A n zs) (hz : ∀ z ∈ zs, 0 ≤ z ∧ z ≤ 255) (hc : n ≤ c) (hn : n ≤ 1048576) :
    Calls Try.prog 34 #[.slice A n c] w (ListGot3 w) := by
  have HZ := Lib.hid hz; clear hz
  go_enter Try.func34, Try.ntmps34
  go_wp2_with fail
  refine (l20Open_any A n c zs _ hx HZ.out hc hn).mono ?_
  rintro x w1 ⟨rb, rfl, hrb, R1, b1⟩
  go_wp2_with fail
  refine (l20Whole_any w1 rb 0 9 R1 (by omega) (by omega) (by omega)).mono ?_
  rintro x w2 ⟨A2, n2, c2, xs2, rfl, hn2, O2, R2, G2⟩
  go_wp2
  go_ret
  exact ⟨A2, n2, c2, xs2, rfl, hn2, O2.mono b1.size, drawn_below b1 b1.size hrb G2⟩
theorem DrawLoopSet_any (A : Option Addr) (n c : Nat) (zs : List Int) (w : World) (hx : RdL uv w A n zs) (hz : ∀ z ∈ zs, 0 ≤ z ∧ z ≤ 255) (hc : n ≤ c) (hn : n ≤ 1048576) :
    Calls Try.prog 42 #[.slice A n c] w (ListGot3 w) := by
  have HZ := Lib.hid hz; clear hz
  go_enter Try.func42, Try.ntmps42
  go_wp2_with fail
  refine (l20Open_any A n c zs _ hx HZ.out hc hn).mono ?_
  rintro x w1 ⟨rb, rfl, hrb, R1, b1⟩
  go_wp2_with fail
  refine (l20Whole_any w1 rb 0 9 R1 (by omega) (by omega) (by omega)).mono ?_
  rintro x w2 ⟨A2, n2, c2, xs2, rfl, hn2, O2, R2, G2⟩
  go_wp2
  go_ret
  exact ⟨A2, n2, c2, xs2, rfl, hn2, O2.mono b1.size, drawn_below b1 b1.size hrb G2⟩
theorem sMany_bd (l : Int) : -1 ≤ sManyI l ∧ sManyI l ≤ 12 := by unfold sManyI; repeat' split <;> omega
theorem lMany_bd (l : Int) : -1 ≤ lManyI l ∧ lManyI l ≤ 20 := by unfold lManyI; repeat' split <;> omega
theorem DrawStepRun_any (A : Option Addr) (n c : Nat) (zs : List Int) (w : World) (hx : RdL uv w A n zs) (hz : ∀ z ∈ zs, 0 ≤ z ∧ z ≤ 255) (hc : n ≤ c) (hn : n ≤ 1048576) :
    Calls Try.prog 40 #[.slice A n c] w (SetGot3 w) := by
  have HZ := Lib.hid hz; clear hz
  go_enter Try.func40, Try.ntmps40
  go_wp2_with fail
  refine (l20Open_any A n c zs _ hx HZ.out hc hn).mono ?_
  rintro x w1 ⟨rb, rfl, hrb, R1, b1⟩
  go_wp2_with fail
  refine (l20Ways_any w1 rb 0 9 R1 (by omega) (by omega) (by omega)).mono ?_
  rintro x w2 ⟨l, rfl, HLB, R2, G2⟩
  obtain ⟨hb0, hb1⟩ := sMany_bd l
  have hmax : ∀ (ts : Array TypeId) (t : TypeId) (W : World), (Builtin.max_ ts t #[.int .i64 (sManyI l), .int .i64 0]).run Try.prog W = .ok (.int .i64 (max (sManyI l) 0)) W := fun ts t W => by
    rw [run_max_int2]; congr 2; split <;> omega
  obtain ⟨M, hM, hM0, hM1⟩ : ∃ M : Int, max (sManyI l) 0 = M ∧ 0 ≤ M ∧ M ≤ 12 := ⟨_, rfl, by omega, by omega⟩
  rw [hM] at hmax
  go_wp2_with fail
  refine (spec_StepMany l _).mono ?_
  rintro x w3 ⟨rfl, m3, rfl⟩
  go_wp2_with fail
  refine (l20Set_any _ rb _ M 14 (R2.drewN m3) (by omega) (by omega) (by omega) (by omega) (by omega)).mono ?_
  rintro x w4 ⟨A4, n4, c4, bs, rfl, hn4, O4, R4, G4⟩
  have B2 := drawn_below b1 b1.size hrb G2
  have B2' := below_drewN B2 m3
  go_wp2
  refine bodyPost_ret (v := .tuple #[.int .i64 l, .slice A4 n4 c4]) (by simp [results, Try.results40, go_sem]) rfl ?_
  exact ⟨l, A4, n4, c4, bs, rfl, HLB.out, hn4, O4.mono B2'.size, drawn_below B2' B2'.size hrb G4⟩
end Go.Proofs.Ytiahpaakkijejaa
