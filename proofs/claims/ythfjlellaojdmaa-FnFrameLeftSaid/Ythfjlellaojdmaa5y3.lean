/- l20Traffic: a drawn table is small. Condition: fewer than 800000 picks so far. -/
import Derived.Test.Ythfjlellaojdmaa5y2
import Derived.Deep.RegionHeld3
import Derived.Deep.RegionWith
namespace Go.Proofs.Ythfjlellaojdmaa
open Go.RowKit
set_option linter.unusedSimpArgs false
set_option linter.unusedVariables false
/-- A drawn table. -/
def TrafDrawn (w : World) (rb P : Nat) (e : Ending) (w' : World) : Prop := ∃ (A : Option Addr) (n c : Nat) (rows : List (List Int)), e = .returned (.slice A n c) ∧ OwnT w' w.heap.size w'.heap.size A n c rows ∧ Hid (SmT rows) ∧ Rdr w' rb (P + 200) ∧ w.grownBy w' (some rb)
/-- A square table that is drawn so far. -/
structure SqAt (w wr : World) (rb Q Z : Nat) (A : Option Addr) (n c : Nat) (L : Nat → Nat → Int) : Prop where
  own : OwnT wr w.heap.size Z A n c (tabF n L)
  rdr : Rdr wr rb Q
  gr : w.grownBy wr (some rb)
theorem SqAt.picked {w wr w' : World} {rb Q Q' Z n c : Nat} {A : Option Addr} {L : Nat → Nat → Int} (h : SqAt w wr rb Q Z A n c L) (hlt : rb < w.heap.size) (R : Rdr w' rb Q') (G : wr.grownBy w' (some rb)) : SqAt w w' rb Q' Z A n c L :=
  ⟨h.own.grown G (fun g hg => .inl (by injection hg; omega)), R, gtrans h.gr G⟩
theorem SqAt.more {w wr : World} {rb Q Q' Z n c : Nat} {A : Option Addr} {L : Nat → Nat → Int} (h : SqAt w wr rb Q Z A n c L) (hq : Q ≤ Q') : SqAt w wr rb Q' Z A n c L := ⟨h.own, h.rdr.more hq, h.gr⟩
theorem SqAt.drew {w wr : World} {rb Q Z n c : Nat} {A : Option Addr} {L : Nat → Nat → Int} (h : SqAt w wr rb Q Z A n c L) : SqAt w wr.drew rb Q Z A n c L := ⟨h.own.drew, h.rdr.drew, ⟨h.gr.os, h.gr.tape, h.gr.output, h.gr.size, h.gr.block⟩⟩
theorem TrafDrawn.sq {w wr : World} {rb P Q Z n c : Nat} {A : Option Addr} {L : Nat → Nat → Int} (hn : n ≤ 6) (S : SqAt w wr rb Q Z A n c L) (hQ : Q ≤ P + 200) : TrafDrawn w rb P (.returned (.slice A n c)) wr :=
  ⟨A, n, c, tabF n L, rfl, S.own.tight, tabF_sm hn, S.rdr.more hQ, S.gr⟩
theorem TrafDrawn.app {w wr w' : World} {rb P Q Z n c c6 : Nat} {A A6 : Option Addr} {L : Nat → Nat → Int} {hs : List Hd} {o o2 : Obj} (hn : n ≤ 6) (hlt : rb < w.heap.size) (S : SqAt w wr rb Q Z A n c L) (hT : TabH wr w.heap.size Z A n c (tabF n L) hs)
    (hO : OwnL iv (wr.alloc o) wr.heap.size 3 (some ⟨wr.heap.size, 0, none⟩) 1 1 [(1 : Int)]) (O6 : OwnL hdv w' w.heap.size 30 A6 (n + 1) c6 (hs ++ [⟨some ⟨wr.heap.size, 0, none⟩, 1, 1⟩])) (G6 : ((wr.alloc o).alloc o2).grownBy w' (blk A)) (L6 : blk A6 = blk A ∨ blk A6 = some ((wr.alloc o).alloc o2).heap.size) (hQ : Q ≤ P + 200) (hZ : Z ≤ wr.heap.size) (hw : w.heap.size ≤ wr.heap.size) :
    TrafDrawn w rb P (.returned (.slice A6 (n + 1) c6)) w' := by
  have z6 := G6.size
  simp at z6
  have B5 := below_box wr o
  have hT6 := tab_push hT.tight B5 hO hw O6 G6 L6 (by omega)
  refine ⟨A6, n + 1, c6, tabF n L ++ [[1]], rfl, hT6, ?_, ?_, ?_⟩
  · have h1 := (tabF_sm (G := L) hn)
    refine ⟨by rw [List.length_append, tabF_len]; simp; omega, ?_⟩
    rw [flat_snoc]
    have h2 := flat_const (rows := tabF n L) (m := 6) (fun r hr => by
      unfold tabF at hr
      obtain ⟨i, _, rfl⟩ := List.mem_map.1 hr
      rw [rowF_len]; exact hn)
    rw [tabF_len] at h2
    simp; omega
  · exact (((S.rdr.alloc o).alloc o2).grown G6 (fun g hg => by have := (hT.own.lt hg).1; omega)).more hQ
  · exact gcomp (galloc (galloc S.gr o) o2) G6 (fun g hg => (hT.own.lt hg).1)
theorem lit2 (w : World) (a b : Int) (r : Nat) (hr : r < 2) : ∃ y, (w.alloc (.cells #[.int .i64 a, .int .i64 b] 3)).cell? ⟨w.heap.size, r, none⟩ = some (iv y) ∧ (w.alloc (.cells #[.int .i64 a, .int .i64 b] 3)).drew.cell? ⟨w.heap.size, r, none⟩ = some (iv y) := by
  have h := OwnL.lit (emb := iv) (e := 3) (B := w.heap.size) w [a, b] (by simp [maxLen]) (Nat.le_refl _)
  obtain ⟨g, y, hA, _, _, _, hc, _⟩ := h.at (k := r) hr
  injection hA with hA; injection hA with hA; subst hA
  exact ⟨y, hc, hc⟩
theorem pick_litd {α : Type} {emb : α → Value} {w : World} {rb P : Nat} {T : TypeId} {cs : Array Value} (ys : List α) (N : Int) (hcs : cs = (ys.map emb).toArray) (hN : N = ys.length) (h0 : 0 < ys.length) (h1 : ys.length ≤ 1000) (hr : Rdr w rb P) (hP : P ≤ 1000000) :
    Calls Try.prog 58 #[.pointer (some ⟨rb, 0, none⟩), .int .i64 N] (w.alloc (.cells cs T)).drew (PickLit emb (w.alloc (.cells cs T)).drew w.heap.size rb P N ys) := pick_lit (w := w.drew) ys N hcs hN h0 h1 hr.drew hP
set_option maxRecDepth 100000 in
set_option maxHeartbeats 4000000 in
theorem l20Traffic_any (w : World) (rb P : Nat) (N : Int) (hr : Rdr w rb P) (hP : P ≤ 700000) (hN : N ≤ 1000000) (hN' : 1 ≤ N) :
    Calls Try.prog 48 #[.pointer (some ⟨rb, 0, none⟩), .int .i64 N] w (TrafDrawn w rb P) := by
  have hlt := hr.lt
  go_enter Try.func48, Try.ntmps48
  go_wp2_with fail
  refine (l20Even_any w rb P hr (by omega)).mono ?_
  rintro x w1 ⟨A, n, c, L, rfl, hn, hT1, R1, G1⟩
  obtain ⟨Z, hZ⟩ : ∃ Z, w1.heap.size = Z := ⟨_, rfl⟩
  rw [hZ] at hT1
  have hwZ : w.heap.size ≤ Z := by rw [← hZ]; exact G1.size
  have S1 : SqAt w w1 rb (P + 40) Z A n c L := ⟨hT1, R1, G1⟩
  clear hT1 R1 G1
  go_wp2_with fail
  refine (pick_n 3 S1.rdr (by omega) (by omega) (by omega)).mono ?_
  rintro x w2 ⟨r2, rfl, H2, R2, G2⟩
  have S2 := S1.picked hlt R2 G2
  have hZ2 : Z ≤ w2.heap.size := by rw [← hZ]; exact G2.size
  clear S1 R2 G2 H2 hZ
  by_cases hr2 : r2 = 0
  · subst hr2
    go_wp2
    go_loopg [6] n (fun g i wr => ∃ (k : Nat) (L : Nat → Nat → Int), k ≤ n ∧ g = n - k ∧ i = .int .i64 k ∧ SqAt w wr rb (P + 41 + 12 * k) Z A n c L ∧ Z ≤ wr.heap.size)
    case atStart => exact ⟨0, L, Nat.zero_le _, rfl, rfl, S2, hZ2⟩
    case round =>
      clear S2 hZ2
      obtain ⟨k, L, hk, rfl, rfl, S, hZr⟩ := hrel
      by_cases hkl : k < n
      · go_wp2
        go_loopg [7] n (fun g i wr => ∃ (j : Nat) (L : Nat → Nat → Int), j ≤ n ∧ g = n - j ∧ i = .int .i64 j ∧ SqAt w wr rb (P + 41 + 12 * k + 2 * j) Z A n c L ∧ Z ≤ wr.heap.size)
        case atStart => exact ⟨0, L, Nat.zero_le _, rfl, rfl, S, hZr⟩
        case round =>
          clear S hZr
          obtain ⟨j, L, hj, rfl, rfl, S, hZr⟩ := hrel
          by_cases hjl : j < n
          · go_wp2_with fail
            refine (pick_n 4 S.rdr (by omega) (by omega) (by omega)).mono ?_
            rintro x w3 ⟨r3, rfl, H3, R3, G3⟩
            have S3 := S.picked hlt R3 G3
            have z3 := G3.size
            clear S R3 G3 H3
            by_cases hr3 : r3 = 0
            · subst hr3
              have S3d := S3.drew
              obtain ⟨g, gk, ck, y, hA, q1, q2, q3, q4, q5, q6, q7, q8, q9, HY, q10, q11, HP⟩ := S3d.own.atF hkl hjl
              subst hA
              have hk0 : (0 : Int) ≤ (k : Int) := Int.natCast_nonneg _
              have hk1 : (k : Int) < (n : Int) := by omega
              have hj0 : (0 : Int) ≤ (j : Int) := Int.natCast_nonneg _
              have hj1 : (j : Int) < (n : Int) := by omega
              clear HP HY q10 q11
              go_wp2_with fail
              go_region_held3 (fun w' => w'.cell? ⟨g, k, none⟩ = some (.slice (some ⟨gk, 0, none⟩) n ck))
                (first | go_keep | assumption | (rw [World.cell?_setCell_other _ _ _ _ (fun h => by injection h with h; omega)]; assumption))
                (first | (go_at_call 58; (with_reducible refine (pick_n 4 (by first | exact S3.rdr | exact S3d.rdr) (by omega) (by omega) (by omega)).mono ?_); rintro x w4 ⟨r4, rfl, H4, R4, G4⟩; have S4 := S3d.picked hlt R4 G4; have z4 := G4.size; obtain ⟨g', gk', ck', y', hA, s1, s2, s3, s4, s5, s6, s7, s8, s9, HY', s10, s11, HP'⟩ := S4.own.atF hkl hjl; injection hA with hA; injection hA with hA; subst hA; have q4' := G4.cell q4 (fun e => by injection e with e; have e2 : g = rb := e; omega); rw [s4] at q4'; injection q4' with q4'; injection q4' with q41 q42 q43; injection q41 with q41; injection q41 with q41; subst q41 q43))
              all_goals
                have S9 : SqAt w (w4.setCell ⟨gk', j, none⟩ (.int .i64 r4)) rb (P + 41 + 12 * k + 2 * j + 1 + 1) Z (some ⟨g, 0, none⟩) n c (upd L k j r4) := ⟨HP'.out r4, R4.set _ _ (by show rb < gk'; omega), gset (gtrans S3d.gr G4) (.inr (by show w.heap.size ≤ gk'; omega)) _⟩
                have z9 : Z ≤ (w4.setCell ⟨gk', j, none⟩ (.int .i64 r4)).heap.size := by
                  have : w3.drew.heap.size ≤ w4.heap.size := z4
                  simp [World.setCell] at this ⊢; omega
                go_wp2_with fail
                go_roundg (n - (j + 1))
                case rel => exact ⟨j + 1, _, by omega, rfl, by go_num, S9.more (by omega), z9⟩
                case measure => omega
            · have hr3z : ((r3 : Int) == 0) = false := by simp; omega
              go_wp2
              go_roundg (n - (j + 1))
              case rel => exact ⟨j + 1, L, by omega, rfl, by go_num, S3.more (by omega), by omega⟩
              case measure => omega
          · go_wp2
            go_roundg (n - (k + 1))
            case rel => exact ⟨k + 1, L, by omega, rfl, by go_num, S.more (by omega), hZr⟩
            case measure => omega
      · go_wp2_with fail
        refine (odd_le N S.rdr (by omega) hN hN').mono ?_
        rintro x w5 ⟨b5, rfl, R5, G5⟩
        have S5 := S.picked hlt R5 G5
        have z5 := G5.size
        clear R5 G5
        cases b5 with
        | false =>
          go_wp2
          go_ret
          exact TrafDrawn.sq hn S5 (by omega)
        | true =>
          by_cases hn0 : n = 0
          · subst hn0
            obtain ⟨hs, hT⟩ := S5.own
            have O5 := OwnL.lit (emb := iv) (e := 3) (B := w5.heap.size) w5 [(1 : Int)] (by simp [maxLen]) (Nat.le_refl _)
            have B5 := below_box w5 (.cells #[.int .i64 1] 3)
            have OH := (hT.own.below B5 (Nat.le_refl _)).alloc (.cells #[hdv ⟨some ⟨w5.heap.size, 0, none⟩, 1, 1⟩] 30)
            have RH := rd_hd (w5.alloc (.cells #[.int .i64 1] 3)) (some ⟨w5.heap.size, 0, none⟩) 1 1
            have RH2 : RdL hdv ((w5.alloc (.cells #[.int .i64 1] 3)).alloc (.cells #[.slice (some ⟨w5.heap.size, 0, none⟩) 1 1] 30)) (some ⟨w5.heap.size + 1, 0, none⟩) 1 [⟨some ⟨w5.heap.size, 0, none⟩, 1, 1⟩] := by simpa using RH
            clear RH
            go_wp2_with (first
              | (at_builtin; refine wpList_appLN (emb := hdv) _ rfl (.tmp 57) (.tmp 59) _ rfl w.heap.size 30 (.slice none 0 0) 24 Try.underlying23 info_row rfl A 0 c hs rfl OH _ 1 1 [⟨some ⟨w5.heap.size, 0, none⟩, 1, 1⟩] rfl RH2 hdv_one 1 rfl _ rfl (by unfold maxLen; omega) (by omega) (by simp; omega) ?_; intro A6 c6 w6 O6 G6 L6)
              | fail)
            go_ret
            exact TrafDrawn.app hn hlt S5 hT O5 O6 G6 L6 (by omega) (by omega) (by omega)
          · have hnp : 0 < n := by omega
            go_wp2_with fail
            refine (pick_n 2 S5.rdr (by omega) (by omega) (by omega)).mono ?_
            rintro x w6 ⟨r6, rfl, H6, R6, G6⟩
            have S6 := S5.picked hlt R6 G6
            have z6 := G6.size
            clear R6 G6 H6
            by_cases hr6 : r6 = 0
            · subst hr6
              have S6d := S6.drew
              obtain ⟨g, gk, ck, y, hA, q1, q2, q3, q4, q5, q6, q7, q8, q9, HY, q10, q11, HP⟩ := S6d.own.atF hnp hnp
              subst hA
              have hn1 : (0 : Int) < (n : Int) := by omega
              have q2' : g < w6.heap.size := q2
              have q7' : gk < w6.heap.size := q7
              have q4a : (w6.alloc (.cells #[.int .i64 (-1), .int .i64 7] 3)).drew.cell? ⟨g, 0, none⟩ = some (.slice (some ⟨gk, 0, none⟩) n ck) := ((below_box w6 _).drew.cell (p := ⟨g, 0, none⟩) q2').trans q4
              clear HP HY q10 q11
              go_wp2_with fail
              go_region_with (first
                | (go_at_call 58; ((with_reducible refine (pick_litd (emb := iv) [-1, 7] 2 ?_ ?_ ?_ ?_ S6.rdr (by omega)).mono ?_); rfl; rfl; simp; simp; rintro x w7 ⟨r7, y7, rfl, H7, h7, k7, R7, G7⟩); go_loud (have h70 : (0 : Int) ≤ (r7 : Int) := Int.natCast_nonneg _; have q4' := G7.cell q4a (fun e => by injection e with e; have e2 : g = rb := e; omega); have S7 : SqAt w w7 rb _ Z (some ⟨g, 0, none⟩) n c L := SqAt.picked (wr := (w6.alloc (.cells #[.int .i64 (-1), .int .i64 7] 3)).drew) ⟨(S6.own.alloc _).drew, (S6.rdr.alloc _).drew, gtrans S6.gr ⟨rfl, rfl, rfl, by simp, fun k hk _ => Below.heap_alloc w6 _ k hk⟩⟩ hlt R7 G7; obtain ⟨g', gk', ck', y', hA, s1, s2, s3, s4, s5, s6, s7, s8, s9, HY', s10, s11, HP'⟩ := S7.own.atF hnp hnp; injection hA with hA; injection hA with hA; subst hA; rw [s4] at q4'; injection q4' with q4'; injection q4' with q41 q42 q43; injection q41 with q41; injection q41 with q41; subst q41 q43; obtain ⟨wz, hwz⟩ : ∃ wz : World, wz = w7 := ⟨_, rfl⟩))
                | (go_at_call 58; (with_reducible refine (pick_n 2 S6d.rdr (by omega) (by omega) (by omega)).mono ?_); rintro x w7 ⟨r7, rfl, H7, R7, G7⟩; have h7 := H7.out; have h70 : (0 : Int) ≤ (r7 : Int) := Int.natCast_nonneg _; obtain ⟨y7, k7, k7d⟩ := lit2 w7 (-1) 7 r7 (by omega); have q4' := G7.cell q4 (fun e => by injection e with e; have e2 : g = rb := e; omega); have S7 : SqAt w w7 rb _ Z (some ⟨g, 0, none⟩) n c L := SqAt.picked S6d hlt R7 G7; have S7a : SqAt w (w7.alloc (.cells #[.int .i64 (-1), .int .i64 7] 3)) rb _ Z (some ⟨g, 0, none⟩) n c L := ⟨S7.own.alloc _, S7.rdr.alloc _, galloc S7.gr _⟩; obtain ⟨g', gk', ck', y', hA, s1, s2, s3, s4, s5, s6, s7, s8, s9, HY', s10, s11, HP'⟩ := S7a.own.atF hnp hnp; injection hA with hA; injection hA with hA; subst hA; have q4b := ((below_box w7 (.cells #[.int .i64 (-1), .int .i64 7] 3)).cell (p := ⟨g, 0, none⟩) (World.block_lt_of_cell? _ _ q4')).trans q4'; rw [s4] at q4b; injection q4b with q4b; injection q4b with q41 q42 q43; injection q41 with q41; injection q41 with q41; subst q41 q43))
              all_goals
                go_wp2
                go_ret
                first
                  | exact TrafDrawn.sq (L := upd L 0 0 y7) hn ⟨HP'.out y7, S7.rdr.set _ _ (by show rb < gk'; omega), gset S7.gr (.inr (by show w.heap.size ≤ gk'; omega)) _⟩ (by omega)
                  | exact TrafDrawn.sq (L := upd L 0 0 y7) hn ⟨HP'.out y7, S7a.rdr.set _ _ (by show rb < gk'; omega), gset S7a.gr (.inr (by show w.heap.size ≤ gk'; omega)) _⟩ (by omega)
            · have hr6z : ((r6 : Int) == 0) = false := by simp; omega
              obtain ⟨hs, hT⟩ := S6.own
              have O5 := OwnL.lit (emb := iv) (e := 3) (B := w6.heap.size) w6 [(1 : Int)] (by simp [maxLen]) (Nat.le_refl _)
              have B5 := below_box w6 (.cells #[.int .i64 1] 3)
              have OH := (hT.own.below B5 (Nat.le_refl _)).alloc (.cells #[hdv ⟨some ⟨w6.heap.size, 0, none⟩, 1, 1⟩] 30)
              have RH := rd_hd (w6.alloc (.cells #[.int .i64 1] 3)) (some ⟨w6.heap.size, 0, none⟩) 1 1
              have RH2 : RdL hdv ((w6.alloc (.cells #[.int .i64 1] 3)).alloc (.cells #[.slice (some ⟨w6.heap.size, 0, none⟩) 1 1] 30)) (some ⟨w6.heap.size + 1, 0, none⟩) 1 [⟨some ⟨w6.heap.size, 0, none⟩, 1, 1⟩] := by simpa using RH
              clear RH
              go_wp2_with (first
                | (at_builtin; refine wpList_appLN (emb := hdv) _ rfl (.tmp 57) (.tmp 59) _ rfl w.heap.size 30 (.slice none 0 0) 24 Try.underlying23 info_row rfl A n c hs rfl OH _ 1 1 [⟨some ⟨w6.heap.size, 0, none⟩, 1, 1⟩] rfl RH2 hdv_one (n + 1) rfl _ rfl (by unfold maxLen; omega) (by omega) (by simp; omega) ?_; intro A7 c7 w7 O7 G7 L7)
                | fail)
              go_ret
              exact TrafDrawn.app hn hlt S6 hT O5 O7 G7 L7 (by omega) (by omega) (by omega)
  · have hr2z : ((r2 : Int) == 0) = false := by simp; omega
    go_wp2_with fail
    refine (odd_le N S2.rdr (by omega) hN hN').mono ?_
    rintro x w5 ⟨b5, rfl, R5, G5⟩
    have S5 := S2.picked hlt R5 G5
    have z5 := G5.size
    clear R5 G5
    cases b5 with
    | false =>
      go_wp2
      go_ret
      exact TrafDrawn.sq hn S5 (by omega)
    | true =>
      by_cases hn0 : n = 0
      · subst hn0
        obtain ⟨hs, hT⟩ := S5.own
        have O5 := OwnL.lit (emb := iv) (e := 3) (B := w5.heap.size) w5 [(1 : Int)] (by simp [maxLen]) (Nat.le_refl _)
        have B5 := below_box w5 (.cells #[.int .i64 1] 3)
        have OH := (hT.own.below B5 (Nat.le_refl _)).alloc (.cells #[hdv ⟨some ⟨w5.heap.size, 0, none⟩, 1, 1⟩] 30)
        have RH := rd_hd (w5.alloc (.cells #[.int .i64 1] 3)) (some ⟨w5.heap.size, 0, none⟩) 1 1
        have RH2 : RdL hdv ((w5.alloc (.cells #[.int .i64 1] 3)).alloc (.cells #[.slice (some ⟨w5.heap.size, 0, none⟩) 1 1] 30)) (some ⟨w5.heap.size + 1, 0, none⟩) 1 [⟨some ⟨w5.heap.size, 0, none⟩, 1, 1⟩] := by simpa using RH
        clear RH
        go_wp2_with (first
          | (at_builtin; refine wpList_appLN (emb := hdv) _ rfl (.tmp 57) (.tmp 59) _ rfl w.heap.size 30 (.slice none 0 0) 24 Try.underlying23 info_row rfl A 0 c hs rfl OH _ 1 1 [⟨some ⟨w5.heap.size, 0, none⟩, 1, 1⟩] rfl RH2 hdv_one 1 rfl _ rfl (by unfold maxLen; omega) (by omega) (by simp; omega) ?_; intro A6 c6 w6 O6 G6 L6)
          | fail)
        go_ret
        exact TrafDrawn.app hn hlt S5 hT O5 O6 G6 L6 (by omega) (by omega) (by omega)
      · have hnp : 0 < n := by omega
        go_wp2_with fail
        refine (pick_n 2 S5.rdr (by omega) (by omega) (by omega)).mono ?_
        rintro x w6 ⟨r6, rfl, H6, R6, G6⟩
        have S6 := S5.picked hlt R6 G6
        have z6 := G6.size
        clear R6 G6 H6
        by_cases hr6 : r6 = 0
        · subst hr6
          have S6d := S6.drew
          obtain ⟨g, gk, ck, y, hA, q1, q2, q3, q4, q5, q6, q7, q8, q9, HY, q10, q11, HP⟩ := S6d.own.atF hnp hnp
          subst hA
          have hn1 : (0 : Int) < (n : Int) := by omega
          have q2' : g < w6.heap.size := q2
          have q7' : gk < w6.heap.size := q7
          have q4a : (w6.alloc (.cells #[.int .i64 (-1), .int .i64 7] 3)).drew.cell? ⟨g, 0, none⟩ = some (.slice (some ⟨gk, 0, none⟩) n ck) := ((below_box w6 _).drew.cell (p := ⟨g, 0, none⟩) q2').trans q4
          clear HP HY q10 q11
          go_wp2_with fail
          go_region_with (first
            | (go_at_call 58; ((with_reducible refine (pick_litd (emb := iv) [-1, 7] 2 ?_ ?_ ?_ ?_ S6.rdr (by omega)).mono ?_); rfl; rfl; simp; simp; rintro x w7 ⟨r7, y7, rfl, H7, h7, k7, R7, G7⟩); go_loud (have h70 : (0 : Int) ≤ (r7 : Int) := Int.natCast_nonneg _; have q4' := G7.cell q4a (fun e => by injection e with e; have e2 : g = rb := e; omega); have S7 : SqAt w w7 rb _ Z (some ⟨g, 0, none⟩) n c L := SqAt.picked (wr := (w6.alloc (.cells #[.int .i64 (-1), .int .i64 7] 3)).drew) ⟨(S6.own.alloc _).drew, (S6.rdr.alloc _).drew, gtrans S6.gr ⟨rfl, rfl, rfl, by simp, fun k hk _ => Below.heap_alloc w6 _ k hk⟩⟩ hlt R7 G7; obtain ⟨g', gk', ck', y', hA, s1, s2, s3, s4, s5, s6, s7, s8, s9, HY', s10, s11, HP'⟩ := S7.own.atF hnp hnp; injection hA with hA; injection hA with hA; subst hA; rw [s4] at q4'; injection q4' with q4'; injection q4' with q41 q42 q43; injection q41 with q41; injection q41 with q41; subst q41 q43; obtain ⟨wz, hwz⟩ : ∃ wz : World, wz = w7 := ⟨_, rfl⟩))
            | (go_at_call 58; (with_reducible refine (pick_n 2 S6d.rdr (by omega) (by omega) (by omega)).mono ?_); rintro x w7 ⟨r7, rfl, H7, R7, G7⟩; have h7 := H7.out; have h70 : (0 : Int) ≤ (r7 : Int) := Int.natCast_nonneg _; obtain ⟨y7, k7, k7d⟩ := lit2 w7 (-1) 7 r7 (by omega); have q4' := G7.cell q4 (fun e => by injection e with e; have e2 : g = rb := e; omega); have S7 : SqAt w w7 rb _ Z (some ⟨g, 0, none⟩) n c L := SqAt.picked S6d hlt R7 G7; have S7a : SqAt w (w7.alloc (.cells #[.int .i64 (-1), .int .i64 7] 3)) rb _ Z (some ⟨g, 0, none⟩) n c L := ⟨S7.own.alloc _, S7.rdr.alloc _, galloc S7.gr _⟩; obtain ⟨g', gk', ck', y', hA, s1, s2, s3, s4, s5, s6, s7, s8, s9, HY', s10, s11, HP'⟩ := S7a.own.atF hnp hnp; injection hA with hA; injection hA with hA; subst hA; have q4b := ((below_box w7 (.cells #[.int .i64 (-1), .int .i64 7] 3)).cell (p := ⟨g, 0, none⟩) (World.block_lt_of_cell? _ _ q4')).trans q4'; rw [s4] at q4b; injection q4b with q4b; injection q4b with q41 q42 q43; injection q41 with q41; injection q41 with q41; subst q41 q43))
          all_goals
            go_wp2
            go_ret
            first
              | exact TrafDrawn.sq (L := upd L 0 0 y7) hn ⟨HP'.out y7, S7.rdr.set _ _ (by show rb < gk'; omega), gset S7.gr (.inr (by show w.heap.size ≤ gk'; omega)) _⟩ (by omega)
              | exact TrafDrawn.sq (L := upd L 0 0 y7) hn ⟨HP'.out y7, S7a.rdr.set _ _ (by show rb < gk'; omega), gset S7a.gr (.inr (by show w.heap.size ≤ gk'; omega)) _⟩ (by omega)
        · have hr6z : ((r6 : Int) == 0) = false := by simp; omega
          obtain ⟨hs, hT⟩ := S6.own
          have O5 := OwnL.lit (emb := iv) (e := 3) (B := w6.heap.size) w6 [(1 : Int)] (by simp [maxLen]) (Nat.le_refl _)
          have B5 := below_box w6 (.cells #[.int .i64 1] 3)
          have OH := (hT.own.below B5 (Nat.le_refl _)).alloc (.cells #[hdv ⟨some ⟨w6.heap.size, 0, none⟩, 1, 1⟩] 30)
          have RH := rd_hd (w6.alloc (.cells #[.int .i64 1] 3)) (some ⟨w6.heap.size, 0, none⟩) 1 1
          have RH2 : RdL hdv ((w6.alloc (.cells #[.int .i64 1] 3)).alloc (.cells #[.slice (some ⟨w6.heap.size, 0, none⟩) 1 1] 30)) (some ⟨w6.heap.size + 1, 0, none⟩) 1 [⟨some ⟨w6.heap.size, 0, none⟩, 1, 1⟩] := by simpa using RH
          clear RH
          go_wp2_with (first
            | (at_builtin; refine wpList_appLN (emb := hdv) _ rfl (.tmp 57) (.tmp 59) _ rfl w.heap.size 30 (.slice none 0 0) 24 Try.underlying23 info_row rfl A n c hs rfl OH _ 1 1 [⟨some ⟨w6.heap.size, 0, none⟩, 1, 1⟩] rfl RH2 hdv_one (n + 1) rfl _ rfl (by unfold maxLen; omega) (by omega) (by simp; omega) ?_; intro A7 c7 w7 O7 G7 L7)
            | fail)
          go_ret
          exact TrafDrawn.app hn hlt S6 hT O5 O7 G7 L7 (by omega) (by omega) (by omega)
end Go.Proofs.Ythfjlellaojdmaa
