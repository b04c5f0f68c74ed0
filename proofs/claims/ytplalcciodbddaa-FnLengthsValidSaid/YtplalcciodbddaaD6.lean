/- The draws of chapter 6: l20Digits, l20Lengths, l20Often and what opens them. Condition: a code of at most 1048576 bytes. -/
import Derived.Test.YtplalcciodbddaaDraw
namespace Go.Proofs.Ytplalcciodbddaa
open Go.RowKit
set_option linter.unusedSimpArgs false
set_option linter.unusedVariables false
def StrDrawn (w : World) (rb P N : Nat) (x : Ending) (w' : World) : Prop := ∃ s : ByteArray, x = .returned (.string s) ∧ Hid (s.size ≤ N) ∧ Rdr w' rb (P + N + 1) ∧ w.grownBy w' (some rb)
theorem l20Digits_any (w : World) (rb P N : Nat) (hr : Rdr w rb P) (hP : P ≤ 900000) (hN : N ≤ 1000) :
    Calls Try.prog 44 #[.pointer (some ⟨rb, 0, none⟩), .int .i64 N] w (StrDrawn w rb P N) := by
  go_enter Try.func44, Try.ntmps44
  go_wp2_with fail
  refine (pick_n ((N : Int) + 1) hr (by omega) (by omega) (by omega)).mono ?_
  rintro x w1 ⟨r1, rfl, H1, R1, G1⟩
  have h1 : r1 ≤ N := by have := H1.out; omega
  go_wp2
  go_loopg [5, 6] r1 (fun g s i wr => ∃ (k Q : Nat) (t : ByteArray), k = g ∧ i = .int .i64 k ∧ s = .string t ∧ k ≤ r1 ∧ t.size + k ≤ r1 ∧ Q + k ≤ P + 1 + r1 ∧ Rdr wr rb Q ∧ w.grownBy wr (some rb))
  case atStart => exact ⟨r1, P + 1, _, rfl, rfl, rfl, Nat.le_refl _, by show 0 + r1 ≤ r1; omega, by omega, R1, G1⟩
  case round =>
    obtain ⟨k, Q, t, rfl, rfl, rfl, hk, ht, hQ, R, G⟩ := hrel
    by_cases hlt : 0 < k
    · go_wp2_with fail
      refine (pick_lit (emb := sv) [⟨#[48]⟩, ⟨#[49]⟩, ⟨#[50]⟩, ⟨#[51]⟩] 4 rfl rfl (by simp) (by simp) R (by omega)).mono ?_
      rintro x w2 ⟨r2, y2, rfl, H2, h2, k2, R2, G2⟩
      have hy2 : y2.size = 1 := by
        have := H2.out
        simp at this
        rcases this with rfl | rfl | rfl | rfl <;> rfl
      have HY2 := Lib.hid hy2
      have hy2' : y2.size ≤ 1 := by omega
      clear hy2
      go_wp2
      go_roundg (k - 1)
      case rel => exact ⟨k - 1, Q + 1, t ++ y2, rfl, congrArg (Value.int .i64) (by omega), rfl, by omega, by rw [ByteArray.size_append]; omega, by omega, R2, gtrans (galloc G _) G2⟩
      case measure => omega
    · go_wp2
      go_ret
      exact ⟨t, rfl, by show t.size ≤ N; omega, R.more (by omega), G⟩

def StrGot (w : World) (x : Ending) (w' : World) : Prop := ∃ s : ByteArray, x = .returned (.string s) ∧ Hid (s.size ≤ 7) ∧ Below w.heap.size w w'
theorem DrawDigitsOk_any (A : Option Addr) (n c : Nat) (zs : List Int) (w : World) (hx : RdL uv w A n zs) (hz : ∀ z ∈ zs, 0 ≤ z ∧ z ≤ 255) (hc : n ≤ c) (hn : n ≤ 1048576) :
    Calls Try.prog 22 #[.slice A n c] w (StrGot w) := by
  have HZ := Lib.hid hz; clear hz
  go_enter Try.func22, Try.ntmps22
  go_wp2_with fail
  refine (l20Open_any A n c zs _ hx HZ.out hc hn).mono ?_
  rintro x w1 ⟨rb, rfl, hrb, R1, b1⟩
  go_wp2_with fail
  refine (l20Digits_any w1 rb 0 6 R1 (by omega) (by omega)).mono ?_
  rintro x w2 ⟨s2, rfl, HS2, R2, G2⟩
  have B2 := drawn_below b1 b1.size hrb G2
  have hs2 := HS2.out
  go_wp2_with fail
  refine (pick_n 3 R2 (by omega) (by omega) (by omega)).mono ?_
  rintro x w3 ⟨r3, rfl, H3, R3, G3⟩
  have B3 := drawn_below B2 B2.size hrb G3
  by_cases h0 : r3 = 0
  · subst h0
    go_wp2_with fail
    refine (pick_lit (emb := sv) [⟨#[52]⟩, ⟨#[57]⟩, ⟨#[47]⟩, ⟨#[120]⟩, ⟨#[32]⟩] 5 rfl rfl (by simp) (by simp) R3 (by omega)).mono ?_
    rintro x w4 ⟨r4, y4, rfl, H4, h4, k4, R4, G4⟩
    have HY4 : Hid (y4.size ≤ 1) := by
      show _ ≤ _
      have := H4.out
      simp at this
      rcases this with rfl | rfl | rfl | rfl | rfl <;> decide
    have hy4 := HY4.out
    have B4 := drawn_below (bbox B3 B3.size _) (by simp; have := B3.size; omega) hrb G4
    go_wp2
    go_ret
    exact ⟨s2 ++ y4, rfl, by show (s2 ++ y4).size ≤ 7; rw [ByteArray.size_append]; have := HY4.out; omega, B4⟩
  · have h0z : ((r3 : Int) == 0) = false := by rw [beq_eq_false_iff_ne]; omega
    go_wp2
    go_ret
    exact ⟨s2, rfl, by show s2.size ≤ 7; omega, B3⟩

def ListDrawn (w : World) (rb P : Nat) (x : Ending) (w' : World) : Prop :=
  ∃ (A : Option Addr) (n c : Nat) (xs : List Int), x = .returned (.slice A n c) ∧ OwnL iv w' w.heap.size 3 A n c xs ∧ n ≤ 12 ∧ Rdr w' rb (P + 30) ∧ w.grownBy w' (some rb)
theorem l20Lengths_any (w : World) (rb P : Nat) (n : Int) (hr : Rdr w rb P) (hP : P ≤ 900000) (hn : n ≤ 1000000) (hn' : 1 ≤ n) :
    Calls Try.prog 49 #[.pointer (some ⟨rb, 0, none⟩), .int .i64 n] w (ListDrawn w rb P) := by
  have hlt := hr.lt
  have hmk : ∀ W : World, (Instr.makeSlice 23 (.int .i64 11) (.int .i64 11)).run Try.prog W = .ok (.slice (some ⟨W.heap.size, 0, none⟩) 11 11) (W.alloc (.cells (madeCells #[.int .i64 0] 11) 3)) := fun W => run_make_row' (P := Try.prog) 23 3 (.int .i64 0) 8 Try.underlying23 info_int rfl .i64 .i64 11 (by omega) (by omega) W
  have O0 : OwnL iv (w.alloc (.cells #[] 3)) w.heap.size 3 (some ⟨w.heap.size, 0, none⟩) 0 0 [] := OwnL.lit w [] (by simp) (Nat.le_refl _)
  go_enter Try.func49, Try.ntmps49
  go_wp2_with fail
  refine (pick_n 11 (hr.alloc _) (by omega) (by omega) (by omega)).mono ?_
  rintro x w1 ⟨r1, rfl, H1, R1, G1⟩
  have h1 : r1 ≤ 10 := by have := H1.out; omega
  have O1 := O0.grown G1 (by intro g e; injection e with e; subst e; simp [blk]; omega)
  have g1 := gtrans (World.grownBy_alloc w _ (some rb)) G1
  go_wp2
  go_loopg [5, 6] r1 (fun g s i wr => ∃ (k Q nn cc : Nat) (A : Option Addr) (ys : List Int), k = g ∧ i = .int .i64 k ∧ s = .slice A nn cc ∧ k ≤ r1 ∧ nn + k ≤ r1 ∧ Q + k ≤ P + 1 + r1 ∧ Rdr wr rb Q ∧ w.grownBy wr (some rb) ∧ OwnL iv wr w.heap.size 3 A nn cc ys)
  case atStart => exact ⟨r1, P + 1, 0, 0, _, [], rfl, rfl, rfl, Nat.le_refl _, by omega, by omega, R1, g1, O1⟩
  case round =>
    obtain ⟨k, Q, nn, cc, A, ys, rfl, rfl, rfl, hk, hnn, hQ, R, G, O⟩ := hrel
    have hltr := R.lt
    have hgs := G.size
    by_cases hkp : 0 < k
    · go_wp2_with fail
      refine (pick_lit (emb := iv) [1, 2, 2, 3, 3, 3] 6 rfl rfl (by simp) (by simp) R (by omega)).mono ?_
      rintro x w2 ⟨r2, y2, rfl, H2, h2, k2, R2, G2⟩
      have O2 := (O.alloc _).grown G2 (fun g e hb => by injection e with e; subst e; have := (O.lt hb).1; omega)
      have g2 := gtrans (galloc G _) G2
      have hg2 := g2.size
      have O2' := O2.alloc (.cells #[.int .i64 y2] 3)
      go_wp2_with (at_builtin; refine wpList_appL _ rfl (.tmp 14) (.tmp 20) _ rfl w.heap.size 3 (.int .i64 0) 8 Try.underlying23 info_int rfl A nn cc ys rfl O2' _ 1 1 [y2] rfl (RdL.one w2 _ y2) (fun _ => rfl) (by unfold maxLen; omega) (by omega) (by simp; omega) ?_; intro A3 c3 w3 O3 G3 L3)
      have R3 := (R2.alloc (.cells #[.int .i64 y2] 3)).grown G3 (fun g e => by have := (O2.lt e).1; omega)
      have g3 := gcomp (galloc g2 _) G3 (fun g e => (O2.lt e).1)
      go_roundg (k - 1)
      case rel => exact ⟨k - 1, Q + 1, nn + 1, c3, A3, ys ++ [y2], rfl, congrArg (Value.int .i64) (by omega), rfl, by omega, by omega, by omega, R3, g3, O3⟩
      case measure => omega
    · go_wp2_with fail
      refine (odd_le n R (by omega) hn hn').mono ?_
      rintro x w4 ⟨b4, rfl, R4, G4⟩
      have O4 := O.grown G4 (fun g e hb => by injection e with e; subst e; have := (O.lt hb).1; omega)
      have g4 := gtrans G G4
      cases b4 with
      | false =>
        go_wp2
        go_ret
        exact ⟨A, nn, cc, ys, rfl, O4, by omega, R4.more (by omega), g4⟩
      | true =>
        go_wp2_with fail
        refine (pick_n 2 R4 (by omega) (by omega) (by omega)).mono ?_
        rintro x w5 ⟨r5, rfl, H5, R5, G5⟩
        have O5 := O4.grown G5 (fun g e hb => by injection e with e; subst e; have := (O.lt hb).1; omega)
        have g5 := gtrans g4 G5
        by_cases h0 : r5 = 0
        · subst h0
          go_wp2_with fail
          refine (pick_lit (emb := iv) [0, 4] 2 rfl rfl (by simp) (by simp) R5 (by omega)).mono ?_
          rintro x w6 ⟨r6, y6, rfl, H6, h6, k6, R6, G6⟩
          have O6 := (O5.alloc _).grown G6 (fun g e hb => by injection e with e; subst e; have := (O.lt hb).1; omega)
          have g6 := gtrans (galloc g5 _) G6
          have hg6 := g6.size
          have O6' := O6.alloc (.cells #[.int .i64 y6] 3)
          go_wp2_with (at_builtin; refine wpList_appL _ rfl (.tmp 28) (.tmp 34) _ rfl w.heap.size 3 (.int .i64 0) 8 Try.underlying23 info_int rfl A nn cc ys rfl O6' _ 1 1 [y6] rfl (RdL.one w6 _ y6) (fun _ => rfl) (by unfold maxLen; omega) (by omega) (by simp; omega) ?_; intro A7 c7 w7 O7 G7 L7)
          have R7 := (R6.alloc (.cells #[.int .i64 y6] 3)).grown G7 (fun g e => by have := (O6.lt e).1; omega)
          have g7 := gcomp (galloc g6 _) G7 (fun g e => (O6.lt e).1)
          go_ret
          exact ⟨A7, nn + 1, c7, ys ++ [y6], rfl, O7, by omega, R7.more (by omega), g7⟩
        · have h0z : ((r5 : Int) == 0) = false := by rw [beq_eq_false_iff_ne]; omega
          go_wp2
          go_ret
          exact ⟨_, 11, 11, _, rfl, OwnL.made w5 (0 : Int) 11 (by decide) _ g5.size, by omega, (R5.alloc _).more (by omega), galloc g5 _⟩
theorem l20Often_any (w : World) (rb P : Nat) (n : Int) (hr : Rdr w rb P) (hP : P ≤ 900000) (hn : n ≤ 1000000) (hn' : 1 ≤ n) :
    Calls Try.prog 50 #[.pointer (some ⟨rb, 0, none⟩), .int .i64 n] w (ListDrawn w rb P) := by
  have hlt := hr.lt
  have hmk : ∀ W : World, (Instr.makeSlice 23 (.int .i64 11) (.int .i64 11)).run Try.prog W = .ok (.slice (some ⟨W.heap.size, 0, none⟩) 11 11) (W.alloc (.cells (madeCells #[.int .i64 0] 11) 3)) := fun W => run_make_row' (P := Try.prog) 23 3 (.int .i64 0) 8 Try.underlying23 info_int rfl .i64 .i64 11 (by omega) (by omega) W
  have O0 : OwnL iv (w.alloc (.cells #[] 3)) w.heap.size 3 (some ⟨w.heap.size, 0, none⟩) 0 0 [] := OwnL.lit w [] (by simp) (Nat.le_refl _)
  go_enter Try.func50, Try.ntmps50
  go_wp2_with fail
  refine (pick_n 9 (hr.alloc _) (by omega) (by omega) (by omega)).mono ?_
  rintro x w1 ⟨r1, rfl, H1, R1, G1⟩
  have h1 : r1 ≤ 8 := by have := H1.out; omega
  have O1 := O0.grown G1 (by intro g e; injection e with e; subst e; simp [blk]; omega)
  have g1 := gtrans (World.grownBy_alloc w _ (some rb)) G1
  go_wp2
  go_loopg [5, 6] (r1 + 2) (fun g s i wr => ∃ (k Q nn cc : Nat) (A : Option Addr) (ys : List Int), k = g ∧ i = .int .i64 k ∧ s = .slice A nn cc ∧ k ≤ r1 + 2 ∧ nn + k = r1 + 2 ∧ Q + 2 * k ≤ P + 5 + 2 * r1 ∧ Rdr wr rb Q ∧ w.grownBy wr (some rb) ∧ OwnL iv wr w.heap.size 3 A nn cc ys)
  case atStart => exact ⟨r1 + 2, P + 1, 0, 0, _, [], rfl, congrArg (Value.int .i64) (by omega), rfl, Nat.le_refl _, by omega, by omega, R1, g1, O1⟩
  case round =>
    obtain ⟨k, Q, nn, cc, A, ys, rfl, rfl, rfl, hk, hnn, hQ, R, G, O⟩ := hrel
    have hltr := R.lt
    have hgs := G.size
    have hnn' : nn ≤ r1 + 2 := by omega
    have HNN := Lib.hid hnn; clear hnn
    by_cases hkp : 0 < k
    · go_wp2_with fail
      refine (pick_n 20 R (by omega) (by omega) (by omega)).mono ?_
      rintro x w2 ⟨r2, rfl, H2, R2, G2⟩
      have h2 := H2.out
      have O2 := O.grown G2 (fun g e hb => by injection e with e; subst e; have := (O.lt hb).1; omega)
      have g2 := gtrans G G2
      go_wp2_with fail
      refine (pick_n 4 R2 (by omega) (by omega) (by omega)).mono ?_
      rintro x w3 ⟨r3, rfl, H3, R3, G3⟩
      have h3 := H3.out
      have O3 := O2.grown G3 (fun g e hb => by injection e with e; subst e; have := (O.lt hb).1; omega)
      have g3 := gtrans g2 G3
      have hg3 := g3.size
      have hb : 0 ≤ (r2 : Int) * (1 + (r3 : Int)) ∧ (r2 : Int) * (1 + (r3 : Int)) ≤ 80 := by
        rcases (by omega : r3 = 0 ∨ r3 = 1 ∨ r3 = 2 ∨ r3 = 3) with rfl | rfl | rfl | rfl <;> simp <;> omega
      obtain ⟨hb1, hb2⟩ := hb
      have O3' := O3.alloc (.cells #[.int .i64 ((r2 : Int) * (1 + (r3 : Int)))] 3)
      go_wp2_with (at_builtin; refine wpList_appL _ rfl (.tmp 15) (.tmp 22) _ rfl w.heap.size 3 (.int .i64 0) 8 Try.underlying23 info_int rfl A nn cc ys rfl O3' _ 1 1 [(r2 : Int) * (1 + (r3 : Int))] rfl (RdL.one w3 _ _) (fun _ => rfl) (by unfold maxLen; omega) (by omega) (by simp; omega) ?_; intro A4 c4 w4 O4 G4 L4)
      have R4 := (R3.alloc (.cells #[.int .i64 ((r2 : Int) * (1 + (r3 : Int)))] 3)).grown G4 (fun g e => by have := (O3.lt e).1; omega)
      have g4 := gcomp (galloc g3 _) G4 (fun g e => (O3.lt e).1)
      go_roundg (k - 1)
      case rel => exact ⟨k - 1, Q + 2, nn + 1, c4, A4, _, rfl, congrArg (Value.int .i64) (by omega), rfl, by omega, by have := HNN.out; omega, by omega, R4, g4, O4⟩
      case measure => omega
    · have hn2 : 2 ≤ nn := by have := HNN.out; omega
      go_wp2_with fail
      refine (odd_le n R (by omega) hn hn').mono ?_
      rintro x w4 ⟨b4, rfl, R4, G4⟩
      have O4 := O.grown G4 (fun g e hb => by injection e with e; subst e; have := (O.lt hb).1; omega)
      have g4 := gtrans G G4
      cases b4 with
      | false =>
        go_wp2
        go_ret
        exact ⟨A, nn, cc, ys, rfl, O4, by omega, R4.more (by omega), g4⟩
      | true =>
        go_wp2_with fail
        refine (pick_n 3 R4 (by omega) (by omega) (by omega)).mono ?_
        rintro x w5 ⟨r5, rfl, H5, R5, G5⟩
        have h5 := H5.out
        have O5 := O4.grown G5 (fun g e hb => by injection e with e; subst e; have := (O.lt hb).1; omega)
        have g5 := gtrans g4 G5
        rcases (by omega : r5 = 0 ∨ r5 = 1 ∨ r5 = 2) with rfl | rfl | rfl
        · go_wp2
          go_ret
          exact ⟨_, 1, 1, _, rfl, OwnL.lit w5 [5] (by decide) g5.size, by omega, (R5.alloc _).more (by omega), galloc g5 _⟩
        · go_wp2_with fail
          refine (pick_lit (emb := iv) [-1, 100] 2 rfl rfl (by simp) (by simp) R5 (by omega)).mono ?_
          rintro x w6 ⟨r6, y6, rfl, H6, h6, k6, R6, G6⟩
          have O6 := (O5.alloc _).grown G6 (fun g e hb => by injection e with e; subst e; have := (O.lt hb).1; omega)
          have g6 := gtrans (galloc g5 _) G6
          obtain ⟨ga, ya, rfl, hBa, hga, HYa, gca, gfa⟩ := O6.at (k := 0) (by omega)
          go_wp2
          go_ret
          exact ⟨_, nn, cc, _, rfl, O6.set 0 y6, by omega, (R6.set _ _ (by show rb < ga; omega)).more (by omega), gset g6 (.inr hBa) _⟩
        · go_wp2
          go_ret
          exact ⟨_, 11, 11, _, rfl, OwnL.made w5 (0 : Int) 11 (by decide) _ g5.size, by omega, (R5.alloc _).more (by omega), galloc g5 _⟩
def ListGot (w : World) (x : Ending) (w' : World) : Prop :=
  ∃ (A : Option Addr) (n c : Nat) (xs : List Int), x = .returned (.slice A n c) ∧ OwnL iv w' w.heap.size 3 A n c xs ∧ n ≤ 12 ∧ Below w.heap.size w w'
theorem DrawLengthsValid_any (A : Option Addr) (n c : Nat) (zs : List Int) (w : World) (hx : RdL uv w A n zs) (hz : ∀ z ∈ zs, 0 ≤ z ∧ z ≤ 255) (hc : n ≤ c) (hn : n ≤ 1048576) :
    Calls Try.prog 26 #[.slice A n c] w (ListGot w) := by
  have HZ := Lib.hid hz; clear hz
  go_enter Try.func26, Try.ntmps26
  go_wp2_with fail
  refine (l20Open_any A n c zs _ hx HZ.out hc hn).mono ?_
  rintro x w1 ⟨rb, rfl, hrb, R1, b1⟩
  go_wp2_with fail
  refine (l20Lengths_any w1 rb 0 3 R1 (by omega) (by omega) (by omega)).mono ?_
  rintro x w2 ⟨A2, n2, c2, xs2, rfl, O2, hn2, R2, G2⟩
  go_wp2
  go_ret
  exact ⟨A2, n2, c2, xs2, rfl, O2.mono b1.size, hn2, drawn_below b1 b1.size hrb G2⟩
theorem DrawOftenValid_any (A : Option Addr) (n c : Nat) (zs : List Int) (w : World) (hx : RdL uv w A n zs) (hz : ∀ z ∈ zs, 0 ≤ z ∧ z ≤ 255) (hc : n ≤ c) (hn : n ≤ 1048576) :
    Calls Try.prog 29 #[.slice A n c] w (ListGot w) := by
  have HZ := Lib.hid hz; clear hz
  go_enter Try.func29, Try.ntmps29
  go_wp2_with fail
  refine (l20Open_any A n c zs _ hx HZ.out hc hn).mono ?_
  rintro x w1 ⟨rb, rfl, hrb, R1, b1⟩
  go_wp2_with fail
  refine (l20Often_any w1 rb 0 3 R1 (by omega) (by omega) (by omega)).mono ?_
  rintro x w2 ⟨A2, n2, c2, xs2, rfl, O2, hn2, R2, G2⟩
  go_wp2
  go_ret
  exact ⟨A2, n2, c2, xs2, rfl, O2.mono b1.size, hn2, drawn_below b1 b1.size hrb G2⟩
end Go.Proofs.Ytplalcciodbddaa
