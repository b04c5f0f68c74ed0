/- DrawStepSet, DrawStepWay and DrawLoopRun: what they hand over. Condition: a code of at most 1048576 bytes. -/
import Derived.Test.YtiahpaakkijejaaD3b
import Derived.Test.Ytiahpaakkijejaa3q
namespace Go.Proofs.Ytiahpaakkijejaa
open Go.RowKit
set_option linter.unusedSimpArgs false
set_option linter.unusedVariables false
theorem DrawLoopRun_any (A : Option Addr) (n c : Nat) (zs : List Int) (w : World) (hx : RdL uv w A n zs) (hz : ∀ z ∈ zs, 0 ≤ z ∧ z ≤ 255) (hc : n ≤ c) (hn : n ≤ 1048576) :
    Calls Try.prog 32 #[.slice A n c] w (SetGot3 w) := by
  have HZ := Lib.hid hz; clear hz
  go_enter Try.func32, Try.ntmps32
  go_wp2_with fail
  refine (l20Open_any A n c zs _ hx HZ.out hc hn).mono ?_
  rintro x w1 ⟨rb, rfl, hrb, R1, b1⟩
  go_wp2_with fail
  refine (l20Ways_any w1 rb 0 9 R1 (by omega) (by omega) (by omega)).mono ?_
  rintro x w2 ⟨l, rfl, HLB, R2, G2⟩
  obtain ⟨hb0, hb1⟩ := lMany_bd l
  have hmax : ∀ (ts : Array TypeId) (t : TypeId) (W : World), (Builtin.max_ ts t #[.int .i64 (lManyI l), .int .i64 0]).run Try.prog W = .ok (.int .i64 (max (lManyI l) 0)) W := fun ts t W => by
    rw [run_max_int2]; congr 2; split <;> omega
  obtain ⟨M, hM, hM0, hM1⟩ : ∃ M : Int, max (lManyI l) 0 = M ∧ 0 ≤ M ∧ M ≤ 20 := ⟨_, rfl, by omega, by omega⟩
  rw [hM] at hmax
  go_wp2_with fail
  refine (spec_LoopMany l _).mono ?_
  rintro x w3 ⟨rfl, m3, rfl⟩
  go_wp2_with fail
  refine (l20Set_any _ rb _ M 14 (R2.drewN m3) (by omega) (by omega) (by omega) (by omega) (by omega)).mono ?_
  rintro x w4 ⟨A4, n4, c4, bs, rfl, hn4, O4, R4, G4⟩
  have B2 := drawn_below b1 b1.size hrb G2
  have B2' := below_drewN B2 m3
  go_wp2
  refine bodyPost_ret (v := .tuple #[.int .i64 l, .slice A4 n4 c4]) (by simp [results, Try.results32, go_sem]) rfl ?_
  exact ⟨l, A4, n4, c4, bs, rfl, HLB.out, hn4, O4.mono B2'.size, drawn_below B2' B2'.size hrb G4⟩
theorem sr_len8 (l : Int) (set : List Bool) : (stepRunL l set).length ≤ 8 := by
  rcases lines_cases l with ⟨h1, -⟩ | ⟨n, st, rfl, hN, h1, -⟩
  · rw [sr_no (by omega)]; simp
  · by_cases hs : (set.length : Int) = sManyI n
    · rw [sr_yes hN h1 hs, runN_len]; have := net_bd hN; omega
    · rw [sr_no (fun h => hs h.2)]; simp
theorem DrawStepSet_any (A : Option Addr) (n c : Nat) (zs : List Int) (w : World) (hx : RdL uv w A n zs) (hz : ∀ z ∈ zs, 0 ≤ z ∧ z ≤ 255) (hc : n ≤ c) (hn : n ≤ 1048576) :
    Calls Try.prog 43 #[.slice A n c] w (ListGot3 w) := by
  have HZ := Lib.hid hz; clear hz
  go_enter Try.func43, Try.ntmps43
  go_wp2_with fail
  refine (l20Open_any A n c zs _ hx HZ.out hc hn).mono ?_
  rintro x w1 ⟨rb, rfl, hrb, R1, b1⟩
  go_wp2_with fail
  refine (pick_n 2 R1 (by omega) (by omega) (by omega)).mono ?_
  rintro x w2 ⟨r2, rfl, H2, R2, G2⟩
  have B2 := drawn_below b1 b1.size hrb G2
  by_cases h2 : r2 = 0
  · subst h2
    go_wp2_with fail
    refine (l20Ways_any w2 rb _ 0 R2 (by omega) (by omega) (by omega)).mono ?_
    rintro x w3 ⟨l, rfl, HLB, R3, G3⟩
    have B3 := drawn_below B2 B2.size hrb G3
    obtain ⟨hb0, hb1⟩ := sMany_bd l
    go_wp2_with fail
    refine (spec_StepMany l _).mono ?_
    rintro x w4 ⟨rfl, m4, rfl⟩
    have B4 := below_drewN B3 m4
    go_wp2_with fail
    refine (l20Set_any _ rb _ (sManyI l) 0 (R3.drewN m4) (by omega) (by omega) (by omega) (by omega) (by omega)).mono ?_
    rintro x w5 ⟨A5, n5, c5, bs, rfl, hn5, O5, R5, G5⟩
    have B5 := drawn_below B4 B4.size hrb G5
    have hX := OwnL.rd O5
    clear O5
    go_wp2_with fail
    refine (spec_StepRun l A5 n5 c5 bs _ hX (by omega)).mono ?_
    rintro x w6 ⟨A6, n6, c6, rfl, O6, B6⟩
    have hl6 := (OwnL.len O6).out
    have h8 := sr_len8 l bs
    go_wp2
    go_ret
    exact ⟨A6, n6, c6, _, rfl, by omega, O6.mono B5.size, bstep B5 B6⟩
  · go_wp2_with fail
    refine (l20Whole_any w2 rb _ 9 R2 (by omega) (by omega) (by omega)).mono ?_
    rintro x w3 ⟨A3, n3, c3, xs3, rfl, hn3, O3, R3, G3⟩
    go_wp2
    go_ret
    exact ⟨A3, n3, c3, xs3, rfl, hn3, O3.mono B2.size, drawn_below B2 B2.size hrb G3⟩
end Go.Proofs.Ytiahpaakkijejaa
