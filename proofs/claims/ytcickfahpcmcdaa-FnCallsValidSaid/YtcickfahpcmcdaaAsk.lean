/- l20Asked draws a shape with small numbers, at most 16 calls, and two numbers. Condition: fewer than 800000 picks so far. -/
import Derived.Test.YtcickfahpcmcdaaDcalls
import Derived.Deep.RegionHeld3
namespace Go.Proofs.Ytcickfahpcmcdaa
open Go.RowKit
set_option linter.unusedSimpArgs false
set_option linter.unusedVariables false
def AskedDrawn (w : World) (rb P : Nat) (x : Ending) (w' : World) : Prop :=
  ∃ (o e m : Int) (A : Option Addr) (n c : Nat) (xs : List Cl) (i q : Int), x = .returned (.tuple #[shv o e m, .slice A n c, .int .i64 i, .int .i64 q]) ∧ Hid (0 ≤ o ∧ o ≤ 5 ∧ 0 ≤ e ∧ e ≤ 4 ∧ 0 ≤ m ∧ m ≤ 6) ∧ n ≤ 16 ∧ OwnC w' w.heap.size 36 A n c xs ∧ Rdr w' rb (P + 84) ∧ w.grownBy w' (some rb)
theorem line_is {A : Option Addr} {n c : Nat} {xs : List Cl} {i q : Int} {w0 : World} (hx : RdC w0 A n xs) (hn : n ≤ 1048576) (m : Nat) : Calls Try.prog 59 #[.slice A n c, .int .i64 i, .int .i64 q] (w0.drewN m) fun e w' => ∃ b, e = .returned (.bool b) ∧ ∃ k, w' = w0.drewN k :=
  (l4Line_any A n c xs i q _ (RdM.drewN hx m) hn).mono fun _ _ ⟨b, he, _, k, hk⟩ => ⟨b, he, m + k, by rw [hk, World.drewN_drewN]⟩
theorem mod_range {v L : Int} (h0 : 0 ≤ v) (h1 : 1 ≤ L) : 0 ≤ (v + 1) % L ∧ (v + 1) % L < L := ⟨Int.emod_nonneg _ (by omega), Int.emod_lt_of_pos _ (by omega)⟩
theorem asked_fin {w wz : World} {rb P Q : Nat} {Z : Obj} {o e m i q : Int} {A : Option Addr} {n c : Nat} {xs : List Cl} (hb : 0 ≤ o ∧ o ≤ 5 ∧ 0 ≤ e ∧ e ≤ 4 ∧ 0 ≤ m ∧ m ≤ 6) (hn : n ≤ 16) (O : OwnC wz (w.heap.size + 1) 36 A n c xs) (R : Rdr wz rb Q) (G : (w.alloc Z).grownBy wz (some rb)) (hlt : rb < w.heap.size) {u0 u1 u2 : Value} (hQ : Q ≤ P + 84) :
    AskedDrawn w rb P (.returned (.tuple #[shv o e m, .slice A n c, .int .i64 i, .int .i64 q])) (((wz.setCell ⟨w.heap.size, 0, none⟩ u0).setCell ⟨w.heap.size, 1, none⟩ u1).setCell ⟨w.heap.size, 2, none⟩ u2) := by
  have hA : blk A ≠ some w.heap.size := fun hh => by have := (OwnM.lt O hh).1; omega
  exact ⟨o, e, m, A, n, c, xs, i, q, rfl, hb, hn, OwnM.mono (OwnM.far (OwnM.far (OwnM.far O _ _ hA) _ _ hA) _ _ hA) (by omega), (((R.set _ _ hlt).set _ _ hlt).set _ _ hlt).more hQ,
    gset (gset (gset (gtrans (World.grownBy_alloc w Z (some rb)) G) (.inr (Nat.le_refl _)) _) (.inr (Nat.le_refl _)) _) (.inr (Nat.le_refl _)) _⟩
set_option maxRecDepth 100000 in
set_option maxHeartbeats 4000000 in
theorem l20Asked_any (w : World) (rb P : Nat) (n : Int) (hr : Rdr w rb P) (hP : P ≤ 700000) (hn : n ≤ 1000) (hn' : 1 ≤ n) :
    Calls Try.prog 48 #[.pointer (some ⟨rb, 0, none⟩), .int .i64 n] w (AskedDrawn w rb P) := by
  have hlt := hr.lt
  go_enter Try.func48, Try.ntmps48
  go_wp2_with fail
  refine (l20Calls_any _ rb P n (hr.alloc _) (by omega) (by omega) (by omega)).mono ?_
  rintro x w1 ⟨o, e, m, A, nn, cc, xs, rfl, HB, hn16, O1, R1, G1⟩
  obtain ⟨ho0, ho1, he0, he1, hm0, hm1⟩ := HB.out
  obtain ⟨hp0, hp1⟩ := mul_bd ho0 ho1 he0 he1
  have hg1 := G1.size
  simp at hg1
  have O1' : OwnC w1 (w.heap.size + 1) 36 A nn cc xs := by
    have := O1; rwa [show (w.alloc (.cells #[.int .i64 0, .int .i64 0, .int .i64 0] 24)).heap.size = w.heap.size + 1 by simp] at this
  have S1 := ShAt.new w1 o e m
  have O2 := OwnM.alloc O1' (.cells #[.int .i64 o, .int .i64 e, .int .i64 m] 24)
  have R2 := R1.alloc (.cells #[.int .i64 o, .int .i64 e, .int .i64 m] 24)
  have G2 := galloc G1 (.cells #[.int .i64 o, .int .i64 e, .int .i64 m] 24)
  clear O1 O1' R1 G1
  obtain ⟨s0, s1, s2, -⟩ := S1.cells
  obtain ⟨L, HLn, hL1, hL2⟩ : ∃ L : Int, Hid (L = max (o * e) 1) ∧ 1 ≤ L ∧ L ≤ 20 := ⟨_, rfl, by omega, by omega⟩
  have hmax : ∀ (ts : Array TypeId) (t : TypeId) (W : World), (Builtin.max_ ts t #[.int .i64 (o * e), .int .i64 1]).run Try.prog W = .ok (.int .i64 L) W := fun ts t W => by
    rw [run_max_int2]; have := HLn.out; congr 2; split <;> omega
  go_wp2_with fail
  refine (pick_n L R2 (by omega) (by omega) (by omega)).mono ?_
  rintro x w3 ⟨r3, rfl, H3, R3, G3⟩
  have h3 := H3.out
  have S3 := S1.grown G3 (by simp; omega)
  have O3 := OwnM.grown O2 G3 (fun g hh hb => by have h1 := (OwnM.lt O2 hb).1; injection hh with hh; omega)
  have G3' := gtrans G2 G3
  clear s0 s1 s2 hmax O2 R2 G2 G3 S1
  go_wp2_with fail
  refine (pick_n L R3 (by omega) (by omega) (by omega)).mono ?_
  rintro x w4 ⟨r4, rfl, H4, R4, G4⟩
  have h4 := H4.out
  have S4 := S3.grown G4 (by simp; omega)
  have O4 := OwnM.grown O3 G4 (fun g hh hb => by have h1 := (OwnM.lt O3 hb).1; injection hh with hh; omega)
  have G4' := gtrans G3' G4
  clear O3 R3 G3' G4 S3
  have hxC := OwnC.rd O4
  go_wp2
  go_loopg [11, 13] 6 (fun g sv sk wr => ∃ (k mm : Nat) (v : Int), k ≤ 6 ∧ g = 6 - k ∧ sk = .int .i64 k ∧ sv = .int .i64 v ∧ 0 ≤ v ∧ v < L ∧ wr = w4.drewN mm)
  case atStart => exact ⟨0, 0, r3, by omega, rfl, rfl, rfl, by omega, by omega, rfl⟩
  case round =>
    obtain ⟨k, mm11, v11, hk, rfl, rfl, rfl, hv011, hv111, rfl⟩ := hrel
    obtain ⟨hm0, hm1⟩ := mod_range hv011 hL1
    by_cases hk6 : k < 6
    · go_wp2_with fail
      refine (line_is hxC (by omega) mm11).mono ?_
      rintro x wz ⟨b5, rfl, m11, rfl⟩
      cases b5 with
      | true =>
        go_wp2
        go_roundg (6 - (k + 1))
        case rel => exact ⟨k + 1, m11, _, by omega, rfl, by go_num, rfl, hm0, hm1, rfl⟩
        case measure => omega
      | false =>
        clear hm0 hm1 hk6
        go_wp2
        go_loopg [12, 14] 6 (fun g sv sk wr => ∃ (k mm : Nat) (v : Int), k ≤ 6 ∧ g = 6 - k ∧ sk = .int .i64 k ∧ sv = .int .i64 v ∧ 0 ≤ v ∧ v < L ∧ wr = w4.drewN mm)
        case atStart => exact ⟨0, m11, r4, by omega, rfl, rfl, rfl, by omega, by omega, rfl⟩
        case round =>
          obtain ⟨k, mm12, v12, hk, rfl, rfl, rfl, hv012, hv112, rfl⟩ := hrel
          obtain ⟨hm0, hm1⟩ := mod_range hv012 hL1
          by_cases hk6 : k < 6
          · go_wp2_with fail
            refine (line_is hxC (by omega) mm12).mono ?_
            rintro x wz ⟨b5, rfl, m12, rfl⟩
            cases b5 with
            | true =>
              go_wp2
              go_roundg (6 - (k + 1))
              case rel => exact ⟨k + 1, m12, _, by omega, rfl, by go_num, rfl, hm0, hm1, rfl⟩
              case measure => omega
            | false =>
              clear hm0 hm1 hk6
              go_wp2
              have S5 := S4.drewN (m12)
              have R5 := R4.drewN (m12)
              have O5 := OwnM.drewN O4 (m12)
              have G5 := gdrewN G4' (m12)
              have Z5 : ShAt (w4.drewN (m12)) w.heap.size 0 0 0 := (ShAt.new w 0 0 0).grown G5 (by simp; omega)
              generalize w4.drewN (m12) = w5 at S5 R5 O5 G5 Z5 ⊢
              clear S4 R4 O4 G4' hxC
              obtain ⟨s0, s1, s2, -⟩ := S5.cells
              obtain ⟨d0, d1, d2, e0, e1, e2⟩ := Z5.cells
              have hz5 := Z5.lt
              have hq39 : ∀ r : Nat, (r : Int) < 40 → (0 : Int) ≤ (r : Int) := fun r _ => Int.natCast_nonneg r
              go_wp2
              go_region_held3 (fun w' => w'.cell? ⟨w1.heap.size, 0, none⟩ = some (.int .i64 o) ∧ w'.cell? ⟨w1.heap.size, 1, none⟩ = some (.int .i64 e) ∧ w'.cell? ⟨w1.heap.size, 2, none⟩ = some (.int .i64 m))
                (first | go_keep | exact ⟨by assumption, by assumption, by assumption⟩ | (refine ⟨?_, ?_, ?_⟩ <;> (rw [World.cell?_setCell_other _ _ _ _ (fun h => by injection h with h; omega), World.cell?_setCell_other _ _ _ _ (fun h => by injection h with h; omega), World.cell?_setCell_other _ _ _ _ (fun h => by injection h with h; omega)]; assumption)))
                (first
                  | (go_at_call 68; (with_reducible refine (pick_n 40 R6 (by omega) (by omega) (by omega)).mono ?_); rintro x w7 ⟨r7, rfl, H7, R7, G7⟩; have S7 := S6.grown G7 (by simp; omega); have Z7 := Z6.grown G7 (by simp; omega); have O7 := OwnM.grown O6 G7 (fun g hh hb => by have h1 := (OwnM.lt O6 hb).1; injection hh with hh; omega); have G7' := gtrans G6' G7; obtain ⟨s0', s1', s2', -⟩ := S7.cells; obtain ⟨d0', d1', d2', e0', e1', e2'⟩ := Z7.cells)
                  | (go_at_call 68; (with_reducible refine (pick_n 40 R5.drew (by omega) (by omega) (by omega)).mono ?_); rintro x w6 ⟨r6, rfl, H6, R6, G6⟩; have S6 := S5.drew.grown G6 (by simp; omega); have Z6 := Z5.drew.grown G6 (by simp; omega); have O6 := OwnM.grown (ownm_drew O5) G6 (fun g hh hb => by have h1 := (OwnM.lt O5 hb).1; injection hh with hh; omega); have G6' := gtrans G5 (gundrew G6); obtain ⟨s0', s1', s2', -⟩ := S6.cells; obtain ⟨d0', d1', d2', e0', e1', e2'⟩ := Z6.cells))
              go_wp2
              refine bodyPost_ret (v := .tuple #[shv o e m, .slice A nn cc, .int .i64 (IntKind.i64.wrap (v11 + IntKind.i64.wrap (IntKind.i64.wrap ((r6 : Int) / 39) * L))), .int .i64 (IntKind.i64.wrap (v12 - IntKind.i64.wrap (IntKind.i64.wrap ((r7 : Int) / 39) * L)))]) (by simp [results, Try.results48, go_sem, d0', d1', d2']) rfl ?_
              exact asked_fin HB.out hn16 O7 R7 G7' hlt (by omega)
          · clear hm0 hm1
            go_wp2
            have S5 := S4.drewN (mm12)
            have R5 := R4.drewN (mm12)
            have O5 := OwnM.drewN O4 (mm12)
            have G5 := gdrewN G4' (mm12)
            have Z5 : ShAt (w4.drewN (mm12)) w.heap.size 0 0 0 := (ShAt.new w 0 0 0).grown G5 (by simp; omega)
            generalize w4.drewN (mm12) = w5 at S5 R5 O5 G5 Z5 ⊢
            clear S4 R4 O4 G4' hxC
            obtain ⟨s0, s1, s2, -⟩ := S5.cells
            obtain ⟨d0, d1, d2, e0, e1, e2⟩ := Z5.cells
            have hz5 := Z5.lt
            have hq39 : ∀ r : Nat, (r : Int) < 40 → (0 : Int) ≤ (r : Int) := fun r _ => Int.natCast_nonneg r
            go_wp2
            go_region_held3 (fun w' => w'.cell? ⟨w1.heap.size, 0, none⟩ = some (.int .i64 o) ∧ w'.cell? ⟨w1.heap.size, 1, none⟩ = some (.int .i64 e) ∧ w'.cell? ⟨w1.heap.size, 2, none⟩ = some (.int .i64 m))
              (first | go_keep | exact ⟨by assumption, by assumption, by assumption⟩ | (refine ⟨?_, ?_, ?_⟩ <;> (rw [World.cell?_setCell_other _ _ _ _ (fun h => by injection h with h; omega), World.cell?_setCell_other _ _ _ _ (fun h => by injection h with h; omega), World.cell?_setCell_other _ _ _ _ (fun h => by injection h with h; omega)]; assumption)))
              (first
                | (go_at_call 68; (with_reducible refine (pick_n 40 R6 (by omega) (by omega) (by omega)).mono ?_); rintro x w7 ⟨r7, rfl, H7, R7, G7⟩; have S7 := S6.grown G7 (by simp; omega); have Z7 := Z6.grown G7 (by simp; omega); have O7 := OwnM.grown O6 G7 (fun g hh hb => by have h1 := (OwnM.lt O6 hb).1; injection hh with hh; omega); have G7' := gtrans G6' G7; obtain ⟨s0', s1', s2', -⟩ := S7.cells; obtain ⟨d0', d1', d2', e0', e1', e2'⟩ := Z7.cells)
                | (go_at_call 68; (with_reducible refine (pick_n 40 R5.drew (by omega) (by omega) (by omega)).mono ?_); rintro x w6 ⟨r6, rfl, H6, R6, G6⟩; have S6 := S5.drew.grown G6 (by simp; omega); have Z6 := Z5.drew.grown G6 (by simp; omega); have O6 := OwnM.grown (ownm_drew O5) G6 (fun g hh hb => by have h1 := (OwnM.lt O5 hb).1; injection hh with hh; omega); have G6' := gtrans G5 (gundrew G6); obtain ⟨s0', s1', s2', -⟩ := S6.cells; obtain ⟨d0', d1', d2', e0', e1', e2'⟩ := Z6.cells))
            go_wp2
            refine bodyPost_ret (v := .tuple #[shv o e m, .slice A nn cc, .int .i64 (IntKind.i64.wrap (v11 + IntKind.i64.wrap (IntKind.i64.wrap ((r6 : Int) / 39) * L))), .int .i64 (IntKind.i64.wrap (v12 - IntKind.i64.wrap (IntKind.i64.wrap ((r7 : Int) / 39) * L)))]) (by simp [results, Try.results48, go_sem, d0', d1', d2']) rfl ?_
            exact asked_fin HB.out hn16 O7 R7 G7' hlt (by omega)
    · clear hm0 hm1
      go_wp2
      go_loopg [12, 14] 6 (fun g sv sk wr => ∃ (k mm : Nat) (v : Int), k ≤ 6 ∧ g = 6 - k ∧ sk = .int .i64 k ∧ sv = .int .i64 v ∧ 0 ≤ v ∧ v < L ∧ wr = w4.drewN mm)
      case atStart => exact ⟨0, mm11, r4, by omega, rfl, rfl, rfl, by omega, by omega, rfl⟩
      case round =>
        obtain ⟨k, mm12, v12, hk, rfl, rfl, rfl, hv012, hv112, rfl⟩ := hrel
        obtain ⟨hm0, hm1⟩ := mod_range hv012 hL1
        by_cases hk6 : k < 6
        · go_wp2_with fail
          refine (line_is hxC (by omega) mm12).mono ?_
          rintro x wz ⟨b5, rfl, m12, rfl⟩
          cases b5 with
          | true =>
            go_wp2
            go_roundg (6 - (k + 1))
            case rel => exact ⟨k + 1, m12, _, by omega, rfl, by go_num, rfl, hm0, hm1, rfl⟩
            case measure => omega
          | false =>
            clear hm0 hm1 hk6
            go_wp2
            have S5 := S4.drewN (m12)
            have R5 := R4.drewN (m12)
            have O5 := OwnM.drewN O4 (m12)
            have G5 := gdrewN G4' (m12)
            have Z5 : ShAt (w4.drewN (m12)) w.heap.size 0 0 0 := (ShAt.new w 0 0 0).grown G5 (by simp; omega)
            generalize w4.drewN (m12) = w5 at S5 R5 O5 G5 Z5 ⊢
            clear S4 R4 O4 G4' hxC
            obtain ⟨s0, s1, s2, -⟩ := S5.cells
            obtain ⟨d0, d1, d2, e0, e1, e2⟩ := Z5.cells
            have hz5 := Z5.lt
            have hq39 : ∀ r : Nat, (r : Int) < 40 → (0 : Int) ≤ (r : Int) := fun r _ => Int.natCast_nonneg r
            go_wp2
            go_region_held3 (fun w' => w'.cell? ⟨w1.heap.size, 0, none⟩ = some (.int .i64 o) ∧ w'.cell? ⟨w1.heap.size, 1, none⟩ = some (.int .i64 e) ∧ w'.cell? ⟨w1.heap.size, 2, none⟩ = some (.int .i64 m))
              (first | go_keep | exact ⟨by assumption, by assumption, by assumption⟩ | (refine ⟨?_, ?_, ?_⟩ <;> (rw [World.cell?_setCell_other _ _ _ _ (fun h => by injection h with h; omega), World.cell?_setCell_other _ _ _ _ (fun h => by injection h with h; omega), World.cell?_setCell_other _ _ _ _ (fun h => by injection h with h; omega)]; assumption)))
              (first
                | (go_at_call 68; (with_reducible refine (pick_n 40 R6 (by omega) (by omega) (by omega)).mono ?_); rintro x w7 ⟨r7, rfl, H7, R7, G7⟩; have S7 := S6.grown G7 (by simp; omega); have Z7 := Z6.grown G7 (by simp; omega); have O7 := OwnM.grown O6 G7 (fun g hh hb => by have h1 := (OwnM.lt O6 hb).1; injection hh with hh; omega); have G7' := gtrans G6' G7; obtain ⟨s0', s1', s2', -⟩ := S7.cells; obtain ⟨d0', d1', d2', e0', e1', e2'⟩ := Z7.cells)
                | (go_at_call 68; (with_reducible refine (pick_n 40 R5.drew (by omega) (by omega) (by omega)).mono ?_); rintro x w6 ⟨r6, rfl, H6, R6, G6⟩; have S6 := S5.drew.grown G6 (by simp; omega); have Z6 := Z5.drew.grown G6 (by simp; omega); have O6 := OwnM.grown (ownm_drew O5) G6 (fun g hh hb => by have h1 := (OwnM.lt O5 hb).1; injection hh with hh; omega); have G6' := gtrans G5 (gundrew G6); obtain ⟨s0', s1', s2', -⟩ := S6.cells; obtain ⟨d0', d1', d2', e0', e1', e2'⟩ := Z6.cells))
            go_wp2
            refine bodyPost_ret (v := .tuple #[shv o e m, .slice A nn cc, .int .i64 (IntKind.i64.wrap (v11 + IntKind.i64.wrap (IntKind.i64.wrap ((r6 : Int) / 39) * L))), .int .i64 (IntKind.i64.wrap (v12 - IntKind.i64.wrap (IntKind.i64.wrap ((r7 : Int) / 39) * L)))]) (by simp [results, Try.results48, go_sem, d0', d1', d2']) rfl ?_
            exact asked_fin HB.out hn16 O7 R7 G7' hlt (by omega)
        · clear hm0 hm1
          go_wp2
          have S5 := S4.drewN (mm12)
          have R5 := R4.drewN (mm12)
          have O5 := OwnM.drewN O4 (mm12)
          have G5 := gdrewN G4' (mm12)
          have Z5 : ShAt (w4.drewN (mm12)) w.heap.size 0 0 0 := (ShAt.new w 0 0 0).grown G5 (by simp; omega)
          generalize w4.drewN (mm12) = w5 at S5 R5 O5 G5 Z5 ⊢
          clear S4 R4 O4 G4' hxC
          obtain ⟨s0, s1, s2, -⟩ := S5.cells
          obtain ⟨d0, d1, d2, e0, e1, e2⟩ := Z5.cells
          have hz5 := Z5.lt
          have hq39 : ∀ r : Nat, (r : Int) < 40 → (0 : Int) ≤ (r : Int) := fun r _ => Int.natCast_nonneg r
          go_wp2
          go_region_held3 (fun w' => w'.cell? ⟨w1.heap.size, 0, none⟩ = some (.int .i64 o) ∧ w'.cell? ⟨w1.heap.size, 1, none⟩ = some (.int .i64 e) ∧ w'.cell? ⟨w1.heap.size, 2, none⟩ = some (.int .i64 m))
            (first | go_keep | exact ⟨by assumption, by assumption, by assumption⟩ | (refine ⟨?_, ?_, ?_⟩ <;> (rw [World.cell?_setCell_other _ _ _ _ (fun h => by injection h with h; omega), World.cell?_setCell_other _ _ _ _ (fun h => by injection h with h; omega), World.cell?_setCell_other _ _ _ _ (fun h => by injection h with h; omega)]; assumption)))
            (first
              | (go_at_call 68; (with_reducible refine (pick_n 40 R6 (by omega) (by omega) (by omega)).mono ?_); rintro x w7 ⟨r7, rfl, H7, R7, G7⟩; have S7 := S6.grown G7 (by simp; omega); have Z7 := Z6.grown G7 (by simp; omega); have O7 := OwnM.grown O6 G7 (fun g hh hb => by have h1 := (OwnM.lt O6 hb).1; injection hh with hh; omega); have G7' := gtrans G6' G7; obtain ⟨s0', s1', s2', -⟩ := S7.cells; obtain ⟨d0', d1', d2', e0', e1', e2'⟩ := Z7.cells)
              | (go_at_call 68; (with_reducible refine (pick_n 40 R5.drew (by omega) (by omega) (by omega)).mono ?_); rintro x w6 ⟨r6, rfl, H6, R6, G6⟩; have S6 := S5.drew.grown G6 (by simp; omega); have Z6 := Z5.drew.grown G6 (by simp; omega); have O6 := OwnM.grown (ownm_drew O5) G6 (fun g hh hb => by have h1 := (OwnM.lt O5 hb).1; injection hh with hh; omega); have G6' := gtrans G5 (gundrew G6); obtain ⟨s0', s1', s2', -⟩ := S6.cells; obtain ⟨d0', d1', d2', e0', e1', e2'⟩ := Z6.cells))
          go_wp2
          refine bodyPost_ret (v := .tuple #[shv o e m, .slice A nn cc, .int .i64 (IntKind.i64.wrap (v11 + IntKind.i64.wrap (IntKind.i64.wrap ((r6 : Int) / 39) * L))), .int .i64 (IntKind.i64.wrap (v12 - IntKind.i64.wrap (IntKind.i64.wrap ((r7 : Int) / 39) * L)))]) (by simp [results, Try.results48, go_sem, d0', d1', d2']) rfl ?_
          exact asked_fin HB.out hn16 O7 R7 G7' hlt (by omega)
end Go.Proofs.Ytcickfahpcmcdaa
