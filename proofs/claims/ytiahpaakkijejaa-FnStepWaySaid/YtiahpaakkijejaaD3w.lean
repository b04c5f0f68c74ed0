/- DrawStepWay: what it hands over. Condition: a code of at most 1048576 bytes. -/
import Derived.Test.YtiahpaakkijejaaD3
namespace Go.Proofs.Ytiahpaakkijejaa
open Go.RowKit
set_option linter.unusedSimpArgs false
set_option linter.unusedVariables false
def WayGot3 (w : World) (x : Ending) (w' : World) : Prop := ∃ (l a q : Int), x = .returned (.tuple #[.int .i64 l, .int .i64 a, .int .i64 q]) ∧ Hid (-2 ≤ l ∧ l ≤ 16) ∧ Below w.heap.size w w'
theorem DrawStepWay_any (A : Option Addr) (n c : Nat) (zs : List Int) (w : World) (hx : RdL uv w A n zs) (hz : ∀ z ∈ zs, 0 ≤ z ∧ z ≤ 255) (hc : n ≤ c) (hn : n ≤ 1048576) :
    Calls Try.prog 14 #[.slice A n c] w (WayGot3 w) := by
  have HZ := Lib.hid hz; clear hz
  go_enter Try.func14, Try.ntmps14
  go_wp2_with fail
  refine (l20Open_any A n c zs _ hx HZ.out hc hn).mono ?_
  rintro x w1 ⟨rb, rfl, hrb, R1, b1⟩
  go_wp2_with fail
  refine (l20Ways_any w1 rb 0 9 R1 (by omega) (by omega) (by omega)).mono ?_
  rintro x w2 ⟨l, rfl, HLB, R2, G2⟩
  obtain ⟨hl0, hl1⟩ := HLB.out
  have B2 := drawn_below b1 b1.size hrb G2
  have hmax : ∀ (ts : Array TypeId) (t : TypeId) (W : World), (Builtin.max_ ts t #[.int .i64 l, .int .i64 1]).run Try.prog W = .ok (.int .i64 (max l 1)) W := fun ts t W => by
    rw [run_max_int2]; congr 2; split <;> omega
  obtain ⟨M, hM, hM0, hM1⟩ : ∃ M : Int, max l 1 = M ∧ 1 ≤ M ∧ M ≤ 16 := ⟨_, rfl, by omega, by omega⟩
  rw [hM] at hmax
  clear hM
  go_wp2_with fail
  refine (pick_n (M + 1) R2 (by omega) (by omega) (by omega)).mono ?_
  rintro x w3 ⟨r3, rfl, H3, R3, G3⟩
  have h3 := H3.out
  have B3 := drawn_below B2 B2.size hrb G3
  go_wp2_with fail
  refine (pick_n 20 R3 (by omega) (by omega) (by omega)).mono ?_
  rintro x w4 ⟨r4, rfl, H4, R4, G4⟩
  have h4 := H4.out
  have B4 := drawn_below B3 B3.size hrb G4
  go_wp2_with fail
  refine (pick_n (M + 1) R4 (by omega) (by omega) (by omega)).mono ?_
  rintro x w5 ⟨r5, rfl, H5, R5, G5⟩
  have h5 := H5.out
  have B5 := drawn_below B4 B4.size hrb G5
  go_wp2_with fail
  refine (pick_n 20 R5 (by omega) (by omega) (by omega)).mono ?_
  rintro x w6 ⟨r6, rfl, H6, R6, G6⟩
  have h6 := H6.out
  have B6 := drawn_below B5 B5.size hrb G6
  go_wp2
  refine bodyPost_ret (by simp [results, Try.results14, go_sem]; rfl) rfl ?_
  exact ⟨l, _, _, rfl, HLB.out, B6⟩
end Go.Proofs.Ytiahpaakkijejaa
