/- The draws of chapter 3: numbers of lines, settings, lists. Condition: fewer than 800000 picks so far; a code of at most 1048576 bytes. -/
import Derived.Test.YtiahpaakkijejaaDperm
import Derived.Test.Ytiahpaakkijejaa3f
namespace Go.Proofs.Ytiahpaakkijejaa
open Go.RowKit
set_option linter.unusedSimpArgs false
set_option linter.unusedVariables false
theorem odd_zero {w : World} {rb P : Nat} (hr : Rdr w rb P) : Calls Try.prog 68 #[.pointer (some ⟨rb, 0, none⟩), .int .i64 0] w fun e w' => e = .returned (.bool false) ∧ ∃ m, w' = w.drewN m := by
  go_enter Try.func68, Try.ntmps68
  go_wp2
  go_ret
  exact ⟨rfl, 0, rfl⟩
/-- odd for any n from 0 on. -/
theorem odd_any0 {w : World} {rb P : Nat} (n : Int) (hr : Rdr w rb P) (hP : P ≤ 1000000) (hn : n ≤ 1000000) (hn' : 0 ≤ n) :
    Calls Try.prog 68 #[.pointer (some ⟨rb, 0, none⟩), .int .i64 n] w (OddR w rb P) := by
  by_cases h : n = 0
  · subst h
    refine (odd_zero hr).mono ?_
    rintro e w1 ⟨rfl, m, rfl⟩
    exact ⟨false, rfl, (hr.drewN m).more (by omega), gdrewN (World.grownBy.refl w _) m⟩
  · exact odd_le n hr hP hn (by omega)
def WaysDrawn (w : World) (rb P : Nat) (x : Ending) (w' : World) : Prop := ∃ l : Int, x = .returned (.int .i64 l) ∧ Hid (-2 ≤ l ∧ l ≤ 16) ∧ Rdr w' rb (P + 2) ∧ w.grownBy w' (some rb)
theorem l20Ways_any (w : World) (rb P : Nat) (n : Int) (hr : Rdr w rb P) (hP : P ≤ 900000) (hn : n ≤ 1000000) (hn' : 0 ≤ n) :
    Calls Try.prog 45 #[.pointer (some ⟨rb, 0, none⟩), .int .i64 n] w (WaysDrawn w rb P) := by
  have hlt := hr.lt
  go_enter Try.func45, Try.ntmps45
  go_wp2_with fail
  refine (odd_any0 n hr (by omega) (by omega) hn').mono ?_
  rintro x w1 ⟨b1, rfl, R1, G1⟩
  cases b1 with
  | true =>
    go_wp2_with fail
    refine (pick_lit (emb := iv) [0, 1, 3, 6, 16, -2] 6 rfl rfl (by simp) (by simp) R1 (by omega)).mono ?_
    rintro x w8 ⟨r8, y8, rfl, H8, h8, k8, R8, G8⟩
    have hy8 : -2 ≤ y8 ∧ y8 ≤ 16 := by have := H8.out; simp at this; omega
    have hr8 : (0 : Int) ≤ (r8 : Int) := Int.natCast_nonneg _
    go_wp2
    go_ret
    exact ⟨y8, rfl, hy8, R8.more (by omega), gtrans (galloc G1 _) G8⟩
  | false =>
    go_wp2_with fail
    refine (pick_lit (emb := iv) [2, 4, 4, 8] 4 rfl rfl (by simp) (by simp) R1 (by omega)).mono ?_
    rintro x w8 ⟨r8, y8, rfl, H8, h8, k8, R8, G8⟩
    have hy8 : -2 ≤ y8 ∧ y8 ≤ 16 := by have := H8.out; simp at this; omega
    have hr8 : (0 : Int) ≤ (r8 : Int) := Int.natCast_nonneg _
    go_wp2
    go_ret
    exact ⟨y8, rfl, hy8, R8.more (by omega), gtrans (galloc G1 _) G8⟩
def SetDrawn (w : World) (rb P : Nat) (x : Ending) (w' : World) : Prop := ∃ (A : Option Addr) (n c : Nat) (bs : List Bool), x = .returned (.slice A n c) ∧ n ≤ 21 ∧ OwnL bv w' w.heap.size 4 A n c bs ∧ Rdr w' rb (P + 22) ∧ w.grownBy w' (some rb)
set_option maxHeartbeats 2000000 in
theorem l20Set_any (w : World) (rb P : Nat) (many n : Int) (hr : Rdr w rb P) (hP : P ≤ 900000) (hm : many ≤ 20) (hm' : -10 ≤ many) (hn : n ≤ 1000000) (hn' : 0 ≤ n) :
    Calls Try.prog 63 #[.pointer (some ⟨rb, 0, none⟩), .int .i64 many, .int .i64 n] w (SetDrawn w rb P) := by
  have hlt := hr.lt
  have O0 : OwnL bv (w.alloc (.cells #[] 4)) w.heap.size 4 (some ⟨w.heap.size, 0, none⟩) 0 0 [] := OwnL.lit w [] (by simp) (Nat.le_refl _)
  go_enter Try.func63, Try.ntmps63
  go_wp2
  go_loopg [7, 8] 20 (fun g s7 s8 wr => ∃ (k c : Nat) (A : Option Addr) (bs : List Bool), k ≤ 20 ∧ g = 20 - k ∧ s8 = .int .i64 k ∧ s7 = .slice A k c ∧ OwnL bv wr w.heap.size 4 A k c bs ∧ Rdr wr rb (P + k) ∧ w.grownBy wr (some rb))
  case atStart => exact ⟨0, _, _, [], by omega, rfl, rfl, rfl, O0, hr.alloc _, World.grownBy_alloc w _ _⟩
  case round =>
    obtain ⟨k, c, A, bs, hk, rfl, rfl, rfl, hown, R, G⟩ := hrel
    have hGs := G.size
    by_cases hk' : (k : Int) < many
    · go_wp2_with fail
      refine (pick_n 2 R (by omega) (by omega) (by omega)).mono ?_
      rintro x w3 ⟨r3, rfl, H3, R3, G3⟩
      have O3 := hown.grown G3 (fun g hh hb => by injection hh with hh; have := (hown.lt hb).1; omega)
      have G3' := gtrans G G3
      have hs3' := G3'.size
      go_wp2_with (at_builtin; refine wpList_appLN (emb := bv) _ rfl (.tmp 15) (.tmp 19) _ rfl w.heap.size 4 (.bool false) 1 Try.underlying31 info_bool rfl A k c bs rfl (O3.alloc _) _ 1 1 [((r3 : Int) == 0)] rfl (RdL.one _ _ _) (fun _ => rfl) (k + 1) rfl _ rfl (by unfold maxLen; omega) (by omega) (by simp; omega) ?_; intro A5 c5 w5 O5 G5 L5)
      have R5 : Rdr w5 rb (P + k + 1) := (R3.alloc _).grown G5 (by intro g hh; have := (hown.lt hh).1; omega)
      have G5' : w.grownBy w5 (some rb) := gcomp (galloc G3' _) G5 (by intro g hh; exact (hown.lt hh).1)
      go_roundg (20 - (k + 1))
      case rel => exact ⟨k + 1, c5, A5, _, by omega, rfl, by go_num, rfl, O5, R5, G5'⟩
      case measure => omega
    · go_wp2_with fail
      refine (odd_any0 n R (by omega) (by omega) hn').mono ?_
      rintro x w3 ⟨b3, rfl, R3, G3⟩
      have O3 := hown.grown G3 (fun g hh hb => by injection hh with hh; have := (hown.lt hb).1; omega)
      have G3' := gtrans G G3
      have hs3' := G3'.size
      cases b3 with
      | false =>
        go_wp2
        go_ret
        exact ⟨A, k, c, bs, rfl, by omega, O3, R3.more (by omega), G3'⟩
      | true =>
        go_wp2_with (at_builtin; refine wpList_appLN (emb := bv) _ rfl (.tmp 24) (.tmp 25) _ rfl w.heap.size 4 (.bool false) 1 Try.underlying31 info_bool rfl A k c bs rfl (O3.alloc _) _ 1 1 [true] rfl (RdL.one _ _ _) (fun _ => rfl) (k + 1) rfl _ rfl (by unfold maxLen; omega) (by omega) (by simp; omega) ?_; intro A5 c5 w5 O5 G5 L5)
        have R5 : Rdr w5 rb (P + k + 1) := (R3.alloc _).grown G5 (by intro g hh; have := (hown.lt hh).1; omega)
        have G5' : w.grownBy w5 (some rb) := gcomp (galloc G3' _) G5 (by intro g hh; exact (hown.lt hh).1)
        go_ret
        exact ⟨A5, k + 1, c5, _, rfl, by omega, O5, R5.more (by omega), G5'⟩
def WholeDrawn (w : World) (rb P : Nat) (x : Ending) (w' : World) : Prop := ∃ (A : Option Addr) (n c : Nat) (xs : List Int), x = .returned (.slice A n c) ∧ n ≤ 8 ∧ OwnL iv w' w.heap.size 3 A n c xs ∧ Rdr w' rb (P + 20) ∧ w.grownBy w' (some rb)
set_option maxHeartbeats 2000000 in
theorem l20Whole_any (w : World) (rb P : Nat) (n : Int) (hr : Rdr w rb P) (hP : P ≤ 800000) (hn : n ≤ 1000000) (hn' : 1 ≤ n) :
    Calls Try.prog 65 #[.pointer (some ⟨rb, 0, none⟩), .int .i64 n] w (WholeDrawn w rb P) := by
  have hlt := hr.lt
  go_enter Try.func65, Try.ntmps65
  go_wp2_with fail
  refine (l20Ways_any w rb P n hr (by omega) (by omega) (by omega)).mono ?_
  rintro x w1 ⟨l, rfl, HL, R1, G1⟩
  obtain ⟨hl0, hl1⟩ := HL.out
  have hmax : ∀ (ts : Array TypeId) (t : TypeId) (W : World), (Builtin.max_ ts t #[.int .i64 l, .int .i64 0]).run Try.prog W = .ok (.int .i64 (max l 0)) W := fun ts t W => by
    rw [run_max_int2]; congr 2; split <;> omega
  obtain ⟨M, hM, hM0, hM1⟩ : ∃ M : Int, max l 0 = M ∧ 0 ≤ M ∧ M ≤ 16 := ⟨_, rfl, by omega, by omega⟩
  rw [hM] at hmax
  clear hM
  obtain ⟨N, hN, hN8⟩ : ∃ N : Nat, M % 9 = (N : Int) ∧ N ≤ 8 := ⟨(M % 9).toNat, by omega, by omega⟩
  have hs1 := G1.size
  go_wp2_with fail
  refine (l20Perm_any w1 rb _ N R1 (by omega) (by omega)).mono ?_
  rintro x w2 ⟨g2, c2, xs, rfl, O2, R2, G2⟩
  have G2' := gtrans G1 G2
  have hg2 := O2.lt (g := g2) rfl
  have O2' : OwnL iv w2 w.heap.size 3 (some ⟨g2, 0, none⟩) N c2 xs := O2.mono hs1
  have hcap := O2.cap
  clear hmax hN O2
  go_wp2_with fail
  refine (pick_n 3 R2 (by omega) (by omega) (by omega)).mono ?_
  rintro x w3 ⟨r3, rfl, H3, R3, G3⟩
  have O3 := O2'.grown G3 (fun g hh hb => by injection hh with hh; rw [blk_some] at hb; injection hb with hb; have := R1.lt; omega)
  have G3' := gtrans G2' G3
  have hs3 := G3.size
  clear O2' G2'
  have hne : g2 ≠ rb := by omega
  have hrg : rb < g2 := by omega
  by_cases h3 : r3 = 0
  · by_cases hN0 : N = 0
    · subst h3
      subst hN0
      go_wp2_with fail
      refine (odd_le n R3 (by omega) (by omega) (by omega)).mono ?_
      rintro x w9 ⟨b9, rfl, R9, G9⟩
      have O9 := OwnL.grown O3 G9 (fun g hh hb => by injection hh with hh; rw [blk_some] at hb; injection hb with hb; omega)
      have G9' := gtrans G3' G9
      cases b9 with
      | false =>
        go_wp2
        go_ret
        exact ⟨_, 0, c2, _, rfl, by omega, O9, R9.more (by omega), G9'⟩
      | true =>
        go_wp2
        go_ret
        exact ⟨_, 0, c2, _, rfl, by omega, O9, R9.more (by omega), G9'⟩
    · subst h3
      have hNp : (0 : Int) < (N : Int) := by omega
      have hNq : ¬ (N : Int) = 0 := by omega
      go_wp2_with fail
      refine (pick_n N R3 (by omega) (by omega) (by omega)).mono ?_
      rintro x w4 ⟨r4, rfl, H4, R4, G4⟩
      have h4 := H4.out
      have O4 := O3.grown G4 (fun g hh hb => by injection hh with hh; rw [blk_some] at hb; injection hb with hb; omega)
      have G4' := gtrans G3' G4
      go_wp2_with fail
      go_loopg [8] N (fun g s8 wr => ∃ (k : Nat) (ys : List Int), k ≤ N ∧ g = N - k ∧ s8 = .int .i64 k ∧ OwnL iv wr w.heap.size 3 (some ⟨g2, 0, none⟩) N c2 ys ∧ Rdr wr rb (P + 16) ∧ w.grownBy wr (some rb))
      case atStart => exact ⟨0, xs, by omega, rfl, rfl, O4, R4.more (by omega), G4'⟩
      case round =>
        obtain ⟨k, ys, hk, rfl, rfl, O5, R5, G5'⟩ := hrel
        by_cases hlt2 : k < N
        · obtain ⟨ga, ya, hA, hBa, hga, HYa, gca, gfa⟩ := O5.at (k := k) hlt2
          injection hA with hA; injection hA with hA; subst hA
          go_wp2_with fail
          go_roundg (N - (k + 1))
          case rel => exact ⟨k + 1, _, by omega, rfl, by go_num, OwnL.set O5 k _, R5.set _ _ (by show rb < g2; omega), gset G5' (.inr (by show w.heap.size ≤ g2; omega)) _⟩
          case measure => omega
        ·
          go_wp2_with fail
          refine (odd_le n R5 (by omega) (by omega) (by omega)).mono ?_
          rintro x w9 ⟨b9, rfl, R9, G9⟩
          have O9 := OwnL.grown O5 G9 (fun g hh hb => by injection hh with hh; rw [blk_some] at hb; injection hb with hb; omega)
          have G9' := gtrans G5' G9
          cases b9 with
          | false =>
            go_wp2
            go_ret
            exact ⟨_, N, c2, _, rfl, by omega, O9, R9.more (by omega), G9'⟩
          | true =>
            by_cases hN0 : N = 0
            · omega
            · have hNp : 0 < N := by omega
              obtain ⟨ga, ya, hA, hBa, hga, HYa, gca, gfa⟩ := O9.at (k := N - 1) (by omega)
              injection hA with hA; injection hA with hA; subst hA
              obtain ⟨gb, yb, hA, hBb, hgb, HYb, gcb, gfb⟩ := O9.at (k := 0) (by omega)
              injection hA with hA; injection hA with hA; subst hA
              have hn1 : ((N : Int) - 1).toNat = N - 1 := by omega
              go_wp2
              go_ret
              exact ⟨_, N, c2, _, rfl, by omega, OwnL.set O9 0 ya, (R9.set _ _ (by show rb < g2; omega)).more (by omega), gset G9' (.inr (by show w.heap.size ≤ g2; omega)) _⟩
  ·
    go_wp2_with fail
    refine (odd_le n R3 (by omega) (by omega) (by omega)).mono ?_
    rintro x w9 ⟨b9, rfl, R9, G9⟩
    have O9 := OwnL.grown O3 G9 (fun g hh hb => by injection hh with hh; rw [blk_some] at hb; injection hb with hb; omega)
    have G9' := gtrans G3' G9
    cases b9 with
    | false =>
      go_wp2
      go_ret
      exact ⟨_, N, c2, _, rfl, by omega, O9, R9.more (by omega), G9'⟩
    | true =>
      by_cases hN0 : N = 0
      · subst hN0
        go_wp2
        go_ret
        exact ⟨_, 0, c2, _, rfl, by omega, O9, R9.more (by omega), G9'⟩
      · have hNp : 0 < N := by omega
        obtain ⟨ga, ya, hA, hBa, hga, HYa, gca, gfa⟩ := O9.at (k := N - 1) (by omega)
        injection hA with hA; injection hA with hA; subst hA
        obtain ⟨gb, yb, hA, hBb, hgb, HYb, gcb, gfb⟩ := O9.at (k := 0) (by omega)
        injection hA with hA; injection hA with hA; subst hA
        have hn1 : ((N : Int) - 1).toNat = N - 1 := by omega
        go_wp2
        go_ret
        exact ⟨_, N, c2, _, rfl, by omega, OwnL.set O9 0 ya, (R9.set _ _ (by show rb < g2; omega)).more (by omega), gset G9' (.inr (by show w.heap.size ≤ g2; omega)) _⟩
end Go.Proofs.Ytiahpaakkijejaa
