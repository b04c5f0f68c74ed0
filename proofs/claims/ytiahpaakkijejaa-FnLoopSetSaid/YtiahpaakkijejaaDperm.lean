/- l20Perm draws a list of so many numbers; nothing else is said of it. Condition: fewer than 900000 picks so far. -/
import Derived.Test.YtiahpaakkijejaaDraw
namespace Go.Proofs.Ytiahpaakkijejaa
open Go.RowKit
set_option linter.unusedSimpArgs false
set_option linter.unusedVariables false
def PermDrawn (w : World) (rb P N : Nat) (x : Ending) (w' : World) : Prop :=
  ∃ (g c : Nat) (xs : List Int), x = .returned (.slice (some ⟨g, 0, none⟩) N c) ∧ OwnL iv w' w.heap.size 3 (some ⟨g, 0, none⟩) N c xs ∧ Rdr w' rb (P + N) ∧ w.grownBy w' (some rb)
theorem OwnL.addr {α : Type} {emb : α → Value} {w : World} {B : Nat} {e : TypeId} {A : Option Addr} {n c : Nat} {ys : List α} (h : OwnL emb w B e A n c ys) (hn : 0 < n) : ∃ g, A = some ⟨g, 0, none⟩ := by
  obtain ⟨g, y, hA, _⟩ := h.at hn
  exact ⟨g, hA⟩
set_option maxRecDepth 100000 in
set_option maxHeartbeats 4000000 in
theorem l20Perm_any (w : World) (rb P N : Nat) (hr : Rdr w rb P) (hP : P ≤ 900000) (hN : N ≤ 20) :
    Calls Try.prog 70 #[.pointer (some ⟨rb, 0, none⟩), .int .i64 (N : Int)] w (PermDrawn w rb P N) := by
  have hlt := hr.lt
  have O0 : OwnL iv (w.alloc (.cells #[] 3)) w.heap.size 3 (some ⟨w.heap.size, 0, none⟩) 0 0 [] := OwnL.lit w [] (by simp) (Nat.le_refl _)
  go_enter Try.func70, Try.ntmps70
  go_wp2
  go_loopg [5, 6, 7, 8] N (fun g s5 s6 s7 s8 wr => ∃ (k gp cp : Nat) (xs : List Int), k ≤ N ∧ g = N - k ∧ s6 = .int .i64 k ∧ s5 = .slice (some ⟨gp, 0, none⟩) k cp ∧ OwnL iv wr w.heap.size 3 (some ⟨gp, 0, none⟩) k cp xs ∧ Rdr wr rb (P + k) ∧ w.grownBy wr (some rb))
  case atStart => exact ⟨0, _, _, [], Nat.zero_le _, rfl, rfl, rfl, O0, hr.alloc _, World.grownBy_alloc w _ _⟩
  case round =>
    obtain ⟨k, gp, cp, xs, hk, rfl, rfl, rfl, hown, R, G⟩ := hrel
    have hGs := G.size
    have hcap := hown.cap
    have hgp := hown.lt (g := gp) rfl
    by_cases hk' : k < N
    · go_wp2_with fail
      refine (pick_n (k + 1) R (by omega) (by omega) (by omega)).mono ?_
      rintro x w3 ⟨r3, rfl, H3, R3, G3⟩
      have h3 := H3.out
      have hr3 : r3 ≤ k := by omega
      have O3 := hown.grown G3 (fun g hh hb => by injection hh with hh; have := (hown.lt hb).1; omega)
      have G3' := gtrans G G3
      have hs3 := G3.size
      have hs3' := G3'.size
      have OE : OwnL iv (w3.alloc (.cells #[] 3)) w3.heap.size 3 (some ⟨w3.heap.size, 0, none⟩) 0 0 [] := OwnL.lit w3 [] (by simp) (Nat.le_refl _)
      have R3a := R3.alloc (.cells #[] 3)
      have RD : RdL iv (w3.alloc (.cells #[] 3)) (some ⟨gp, 0 + r3, none⟩) (k - r3) (xs.drop r3) := (O3.alloc _).rd.drop hr3
      by_cases hrc : r3 = cp
      · have hkr : r3 = k := by omega
        subst hrc
        subst hkr
        go_wp2_with (first
          | (at_builtin; refine wpList_appLN (emb := iv) _ rfl (.tmp 19) (.tmp 22) _ rfl w3.heap.size 3 (.int .i64 0) 8 Try.underlying25 info_int rfl _ 0 0 [] rfl OE _ 0 _ [] rfl (RdL.empty rfl) (fun _ => rfl) 0 (by omega) _ rfl (by unfold maxLen; omega) (by omega) (by simp) ?_; intro A5 c5 w5 O5 G5 L5; have g5s : w3.heap.size + 1 ≤ w5.heap.size := (by have h := G5.size; simpa using h); have O3x : OwnL iv w5 w.heap.size 3 (some ⟨gp, 0, none⟩) r3 r3 xs := (O3.alloc _).grown G5 (by intro g hh hb; rw [blk_some] at hh hb; injection hh with hh; injection hb with hb; omega))
          | (at_builtin; refine wpList_appLN (emb := iv) _ rfl (.tmp 26) (.tmp 28) _ rfl w.heap.size 3 (.int .i64 0) 8 Try.underlying25 info_int rfl _ r3 r3 (xs.take r3) rfl ((O3x.tops hr3).alloc _) _ 1 1 [(r3 : Int)] rfl (RdL.one _ _ _) (fun _ => rfl) (r3 + 1) rfl _ rfl (by unfold maxLen; omega) (by omega) (by simp; omega) ?_; intro A6 c6 w6 O6 G6 L6; have g6s : w5.heap.size + 1 ≤ w6.heap.size := (by have h := G6.size; simpa using h))
          | (at_builtin; refine wpList_appLN (emb := iv) _ rfl (.tmp 29) (.tmp 30) _ rfl w.heap.size 3 (.int .i64 0) 8 Try.underlying25 info_int rfl A6 (r3 + 1) c6 _ rfl O6 A5 0 c5 _ rfl ((O5.alloc _).rd.grown G6 (by intro g hh; rw [blk_some] at hh; injection hh with hh; intro hb; have := (O5.lt hb).1; omega)) (fun _ => rfl) (r3 + 1) (by omega) _ rfl (by unfold maxLen; omega) (by omega) (by omega) ?_; intro A7 c7 w7 O7 G7 L7)
          | fail)
        obtain ⟨g7, rfl⟩ := OwnL.addr O7 (by omega)
        have R5 : Rdr w5 rb (P + r3 + 1) := R3a.grown G5 (by intro g hh; rw [blk_some] at hh; injection hh with hh; omega)
        have R6 : Rdr w6 rb (P + r3 + 1) := (R5.alloc _).grown G6 (by intro g hh; rw [blk_some] at hh; injection hh with hh; omega)
        have R7 : Rdr w7 rb (P + r3 + 1) := R6.grown G7 (by intro g hh; have := (O6.lt hh).1; omega)
        have G5' : w.grownBy w5 (some rb) := gcomp (galloc G3' _) G5 (by intro g hh; rw [blk_some] at hh; injection hh with hh; omega)
        have G6' : w.grownBy w6 (some rb) := gcomp (galloc G5' _) G6 (by intro g hh; rw [blk_some] at hh; injection hh with hh; omega)
        have G7' : w.grownBy w7 (some rb) := gcomp G6' G7 (by intro g hh; exact (O6.lt hh).1)
        go_roundg (N - (r3 + 1))
        case rel => exact ⟨r3 + 1, g7, c7, _, by omega, rfl, by go_num, rfl, O7, R7, G7'⟩
        case measure => omega
      · go_wp2_with (first
          | (at_builtin; refine wpList_appLN (emb := iv) _ rfl (.tmp 19) (.tmp 22) _ rfl w3.heap.size 3 (.int .i64 0) 8 Try.underlying25 info_int rfl _ 0 0 [] rfl OE _ (k - r3) (cp - r3) (xs.drop r3) rfl (by simpa using RD) (fun _ => rfl) (k - r3) (by omega) _ rfl (by unfold maxLen; omega) (by omega) (by simp) ?_; intro A5 c5 w5 O5 G5 L5; have g5s : w3.heap.size + 1 ≤ w5.heap.size := (by have h := G5.size; simpa using h); have O3x : OwnL iv w5 w.heap.size 3 (some ⟨gp, 0, none⟩) k cp xs := (O3.alloc _).grown G5 (by intro g hh hb; rw [blk_some] at hh hb; injection hh with hh; injection hb with hb; omega))
          | (at_builtin; refine wpList_appLN (emb := iv) _ rfl (.tmp 26) (.tmp 28) _ rfl w.heap.size 3 (.int .i64 0) 8 Try.underlying25 info_int rfl _ r3 cp (xs.take r3) rfl ((O3x.tops hr3).alloc _) _ 1 1 [(k : Int)] rfl (RdL.one _ _ _) (fun _ => rfl) (r3 + 1) rfl _ rfl (by unfold maxLen; omega) (by omega) (by simp; omega) ?_; intro A6 c6 w6 O6 G6 L6; have g6s : w5.heap.size + 1 ≤ w6.heap.size := (by have h := G6.size; simpa using h))
          | (at_builtin; refine wpList_appLN (emb := iv) _ rfl (.tmp 29) (.tmp 30) _ rfl w.heap.size 3 (.int .i64 0) 8 Try.underlying25 info_int rfl A6 (r3 + 1) c6 _ rfl O6 A5 (k - r3) c5 _ rfl ((O5.alloc _).rd.grown G6 (by intro g hh; rw [blk_some] at hh; injection hh with hh; intro hb; have := (O5.lt hb).1; omega)) (fun _ => rfl) (k + 1) (by omega) _ rfl (by unfold maxLen; omega) (by omega) (by omega) ?_; intro A7 c7 w7 O7 G7 L7)
          | fail)
        obtain ⟨g7, rfl⟩ := OwnL.addr O7 (by omega)
        have R5 : Rdr w5 rb (P + k + 1) := R3a.grown G5 (by intro g hh; rw [blk_some] at hh; injection hh with hh; omega)
        have R6 : Rdr w6 rb (P + k + 1) := (R5.alloc _).grown G6 (by intro g hh; rw [blk_some] at hh; injection hh with hh; omega)
        have R7 : Rdr w7 rb (P + k + 1) := R6.grown G7 (by intro g hh; have := (O6.lt hh).1; omega)
        have G5' : w.grownBy w5 (some rb) := gcomp (galloc G3' _) G5 (by intro g hh; rw [blk_some] at hh; injection hh with hh; omega)
        have G6' : w.grownBy w6 (some rb) := gcomp (galloc G5' _) G6 (by intro g hh; rw [blk_some] at hh; injection hh with hh; omega)
        have G7' : w.grownBy w7 (some rb) := gcomp G6' G7 (by intro g hh; exact (O6.lt hh).1)
        go_roundg (N - (k + 1))
        case rel => exact ⟨k + 1, g7, c7, _, by omega, rfl, by go_num, rfl, O7, R7, G7'⟩
        case measure => omega
    · go_wp2
      go_ret
      obtain rfl : k = N := by omega
      exact ⟨gp, cp, xs, rfl, hown, R, G⟩
end Go.Proofs.Ytiahpaakkijejaa
