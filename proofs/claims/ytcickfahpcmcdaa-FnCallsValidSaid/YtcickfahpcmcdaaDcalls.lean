/- l20Calls draws some shape with small numbers and at most 16 calls. Condition: fewer than 900000 picks so far. -/
import Derived.Test.YtcickfahpcmcdaaDshape
import Derived.Test.Ytcickfahpcmcdaa4mt
namespace Go.Proofs.Ytcickfahpcmcdaa
open Go.RowKit
set_option linter.unusedSimpArgs false
set_option linter.unusedVariables false
theorem mul_bd {o e : Int} (h0 : 0 ≤ o) (h1 : o ≤ 5) (h2 : 0 ≤ e) (h3 : e ≤ 4) : 0 ≤ o * e ∧ o * e ≤ 20 := by
  obtain ⟨a, rfl⟩ : ∃ a : Nat, o = a := ⟨o.toNat, by omega⟩
  obtain ⟨b, rfl⟩ : ∃ b : Nat, e = b := ⟨e.toNat, by omega⟩
  have h := Nat.mul_le_mul (show a ≤ 5 by omega) (show b ≤ 4 by omega)
  rw [← Int.natCast_mul]
  omega
theorem drop_le (o e m : Int) (xs : List Cl) (i : Int) : (dropL o e m xs i).1.length ≤ xs.length := by
  unfold dropL
  split
  · exact List.length_filter_le _ _
  · simp
theorem move_le (o e m : Int) (xs : List Cl) (i q : Int) : (moveL o e m xs i q).1.length ≤ xs.length + 1 := by
  by_cases h1 : CallsOk o e m xs ∧ e ≤ m
  · by_cases h2 : LinesFree o e xs i q
    · obtain ⟨ys, v, he, _, hl, _⟩ := moveL_ok h1.1 h1.2 h2
      rw [he]; simp; omega
    · rw [move_busy h1.1 h1.2 h2]; simp
  · rw [move_neg h1]; simp
theorem free_len6 (o e m : Int) (xs : List Cl) (i q : Int) : (freeL o e m xs i q).length ≤ m.toNat := by
  unfold freeL
  split
  · exact Nat.le_trans (List.length_filter_le _ _) (by rw [len_upto]; exact Nat.le_refl _)
  · simp
def CallsDrawn (w : World) (rb P : Nat) (x : Ending) (w' : World) : Prop :=
  ∃ (o e m : Int) (A : Option Addr) (n c : Nat) (xs : List Cl), x = .returned (.tuple #[shv o e m, .slice A n c]) ∧ Hid (0 ≤ o ∧ o ≤ 5 ∧ 0 ≤ e ∧ e ≤ 4 ∧ 0 ≤ m ∧ m ≤ 6) ∧ n ≤ 16 ∧ OwnC w' w.heap.size 36 A n c xs ∧ Rdr w' rb (P + 80) ∧ w.grownBy w' (some rb)
/-- What the loop keeps: the calls so far, the shape's block, the reader. -/
structure DC (w w1 wr : World) (rb P : Nat) (o e m : Int) (A : Option Addr) (n c : Nat) (xs : List Cl) : Prop where
  own : OwnC wr (w1.heap.size + 1) 36 A n c xs
  sh : ShAt wr w1.heap.size o e m
  rd : Rdr wr rb P
  gr : (w.alloc (.cells #[.int .i64 0, .int .i64 0, .int .i64 0] 24)).grownBy wr (some rb)
  lt : rb < w.heap.size
  le : w.heap.size + 1 ≤ w1.heap.size
section
variable {w w1 wr wn : World} {rb P Q : Nat} {o e m : Int} {A : Option Addr} {n c : Nat} {xs : List Cl}
theorem DC.pick (h : DC w w1 wr rb P o e m A n c xs) (hr : Rdr wn rb Q) (hg : wr.grownBy wn (some rb)) : DC w w1 wn rb Q o e m A n c xs :=
  ⟨OwnM.grown h.own hg (fun g hh hb => by have h1 := (OwnM.lt h.own hb).1; injection hh with hh; have := h.lt; have := h.le; omega), h.sh.grown hg (by have := h.lt; have := h.le; simp; omega), hr, gtrans h.gr hg, h.lt, h.le⟩
theorem DC.below (h : DC w w1 wr rb P o e m A n c xs) (hb : Below wr.heap.size wr wn) : DC w w1 wn rb P o e m A n c xs :=
  ⟨OwnM.below h.own hb (Nat.le_refl _), h.sh.below hb, h.rd.below hb, gtrans h.gr (gbelow hb _), h.lt, h.le⟩
theorem DC.more (h : DC w w1 wr rb P o e m A n c xs) (hq : P ≤ Q) : DC w w1 wr rb Q o e m A n c xs := ⟨h.own, h.sh, h.rd.more hq, h.gr, h.lt, h.le⟩
theorem DC.put {A' : Option Addr} {n' c' : Nat} {ys : List Cl} (h : DC w w1 wr rb P o e m A n c xs) (ho : OwnC wr wn.heap.size 36 A' n' c' ys) (hs : w1.heap.size + 1 ≤ wn.heap.size) : DC w w1 wr rb P o e m A' n' c' ys :=
  ⟨OwnM.mono ho hs, h.sh, h.rd, h.gr, h.lt, h.le⟩
theorem DC.size (h : DC w w1 wr rb P o e m A n c xs) : w1.heap.size + 1 ≤ wr.heap.size := by have := h.sh.lt; omega
/-- An append to the calls. -/
theorem DC.app {A' : Option Addr} {c' : Nat} {ys : List Cl} {O : Obj} {n' : Nat} (h : DC w w1 wr rb P o e m A n c xs) (ho : OwnC wn (w1.heap.size + 1) 36 A' n' c' ys) (hg : (wr.alloc O).grownBy wn (blk A)) : DC w w1 wn rb P o e m A' n' c' ys :=
  ⟨ho, ShAt.grown (h.sh.alloc O) hg (fun hh => by have h1 := (OwnM.lt h.own hh.symm).1; omega), Rdr.grown (h.rd.alloc O) hg (fun g hh => by have h1 := (OwnM.lt h.own hh).1; have := h.lt; have := h.le; omega),
   gcomp (galloc h.gr O) hg (fun g hh => by have h1 := (OwnM.lt h.own hh).1; have := h.le; simp; omega), h.lt, h.le⟩
theorem DC.set {gb k j : Nat} {y y' : Cl} {u : Value} (h : DC w w1 wr rb P o e m (some ⟨gb, 0, none⟩) n c xs) (hy : xs[k]? = some y) (hj : j < 3) (he : clv y' = (clv y).set j u) (hgb : w1.heap.size + 1 ≤ gb) :
    DC w w1 (wr.setCell ⟨gb, k * 3 + j, none⟩ u) rb P o e m (some ⟨gb, 0, none⟩) n c (xs.set k y') :=
  ⟨OwnM.set1 clv_len h.own hy hj he, (Below.heap_setCell wr ⟨gb, k * 3 + j, none⟩ u w1.heap.size (by simp; omega)).trans h.sh, h.rd.set _ _ (by have := h.lt; have := h.le; simp; omega), gset h.gr (.inr (by have := h.le; simp; omega)) u, h.lt, h.le⟩
theorem calls_fin (h : DC w w1 wr rb Q o e m A n c xs) (hb : 0 ≤ o ∧ o ≤ 5 ∧ 0 ≤ e ∧ e ≤ 4 ∧ 0 ≤ m ∧ m ≤ 6) (hn : n ≤ 16) (hQ : Q ≤ P + 80) {u0 u1 u2 : Value} :
    CallsDrawn w rb P (.returned (.tuple #[shv o e m, .slice A n c])) (((wr.setCell ⟨w.heap.size, 0, none⟩ u0).setCell ⟨w.heap.size, 1, none⟩ u1).setCell ⟨w.heap.size, 2, none⟩ u2) := by
  have hA : blk A ≠ some w.heap.size := fun hh => by have := (OwnM.lt h.own hh).1; have := h.le; omega
  exact ⟨o, e, m, A, n, c, xs, rfl, hb, hn, OwnM.mono (OwnM.far (OwnM.far (OwnM.far h.own _ _ hA) _ _ hA) _ _ hA) (by have := h.le; omega), (((h.rd.set _ _ h.lt).set _ _ h.lt).set _ _ h.lt).more hQ,
    gset (gset (gset (gtrans (World.grownBy_alloc w _ (some rb)) h.gr) (.inr (Nat.le_refl _)) _) (.inr (Nat.le_refl _)) _) (.inr (Nat.le_refl _)) _⟩
end
set_option maxRecDepth 100000 in
set_option maxHeartbeats 4000000 in
theorem l20Calls_any (w : World) (rb P : Nat) (n : Int) (hr : Rdr w rb P) (hP : P ≤ 800000) (hn : n ≤ 1000) (hn' : 1 ≤ n) :
    Calls Try.prog 67 #[.pointer (some ⟨rb, 0, none⟩), .int .i64 n] w (CallsDrawn w rb P) := by
  have hlt := hr.lt
  go_enter Try.func67, Try.ntmps67
  go_wp2_with fail
  refine (l20Shape_any _ rb P (2 * n) (hr.alloc _) (by omega) (by omega) (by omega)).mono ?_
  rintro x w1 ⟨o, e, m, rfl, HB, R1, G1⟩
  obtain ⟨ho0, ho1, he0, he1, hm0, hm1⟩ := HB.out
  obtain ⟨hp0, hp1⟩ := mul_bd ho0 ho1 he0 he1
  have hg1 := G1.size
  simp at hg1
  have D1 : DC w w1 ((w1.alloc (.cells #[.int .i64 o, .int .i64 e, .int .i64 m] 24)).alloc (.cells #[] 36)) rb (P + 7) o e m (some ⟨w1.heap.size + 1, 0, none⟩) 0 0 [] := by
    refine ⟨?_, (ShAt.new w1 o e m).alloc _, (R1.alloc _).alloc _, galloc (galloc G1 _) _, hlt, by omega⟩
    have h := OwnM.lit0 (sz := 3) (emb := clv) (e := 36) (B := w1.heap.size + 1) (w1.alloc (.cells #[.int .i64 o, .int .i64 e, .int .i64 m] 24)) (by simp)
    rwa [show (w1.alloc (.cells #[.int .i64 o, .int .i64 e, .int .i64 m] 24)).heap.size = w1.heap.size + 1 by simp] at h
  obtain ⟨s0, s1, s2, -⟩ := D1.sh.cells
  obtain ⟨L, HLn, hL1, hL2⟩ : ∃ L : Int, Hid (L = max (o * e) 1) ∧ 1 ≤ L ∧ L ≤ 20 := ⟨_, rfl, by omega, by omega⟩
  have hmax : ∀ (ts : Array TypeId) (t : TypeId) (W : World), (Builtin.max_ ts t #[.int .i64 (o * e), .int .i64 1]).run Try.prog W = .ok (.int .i64 L) W := fun ts t W => by
    rw [run_max_int2]; have := HLn.out; congr 2; split <;> omega
  go_wp2_with fail
  refine (pick_n 16 D1.rd (by omega) (by omega) (by omega)).mono ?_
  rintro x w2 ⟨r2, rfl, H2, R2, G2⟩
  have h2 := H2.out
  have D2 := D1.pick R2 G2
  have hz2 := D2.size
  clear s0 s1 s2 hmax
  go_wp2
  go_loopg [7, 9] r2 (fun g s7 s9 wr => ∃ (A : Option Addr) (nn cc : Nat) (xs : List Cl), s9 = .int .i64 g ∧ s7 = .slice A nn cc ∧ g ≤ 15 ∧ nn + g ≤ 15 ∧ DC w w1 wr rb (P + 68 - 4 * g) o e m A nn cc xs)
  case atStart => exact ⟨_, 0, 0, [], rfl, rfl, by omega, by omega, D2.more (by omega)⟩
  case round =>
    obtain ⟨A, nn, cc, xs, rfl, rfl, hr15, hnr, D⟩ := hrel
    have HLx := OwnC.len D.own
    have hcap := (OwnM.cap D.own).1
    by_cases h0 : gk = 0
    · subst h0
      clear D1 D2 R1 R2 G1 G2
      have z0 : ShAt wr w.heap.size 0 0 0 := (ShAt.new w 0 0 0).grown D.gr (by simp; omega)
      go_wp2_with fail
      refine (odd_le (2 * n) D.rd (by omega) (by omega) (by omega)).mono ?_
      rintro x w3 ⟨b3, rfl, R3, G3⟩
      have D3 := D.pick R3 G3
      have z3 := z0.grown G3 (by simp; omega)
      clear D z0 R3 G3
      obtain ⟨s0, s1, s2, f0, f1, f2⟩ := D3.sh.cells
      obtain ⟨d0, d1, d2, e0, e1, e2⟩ := z3.cells
      cases b3 with
      | false =>
        go_wp2
        refine bodyPost_ret (v := .tuple #[shv o e m, .slice A nn cc]) (by simp [results, Try.results67, go_sem, d0, d1, d2]) rfl ?_
        exact calls_fin D3 HB.out (by omega) (by omega)
      | true =>
        by_cases k0 : nn = 0
        · subst k0
          go_wp2
          refine bodyPost_ret (v := .tuple #[shv o e m, .slice A 0 cc]) (by simp [results, Try.results67, go_sem, d0, d1, d2]) rfl ?_
          exact calls_fin D3 HB.out (by omega) (by omega)
        · have hp : 0 < nn := by omega
          clear s0 s1 s2 f0 f1 f2 d0 d1 d2 e0 e1 e2
          go_wp2_with fail
          refine (pick_n 3 D3.rd (by omega) (by omega) (by omega)).mono ?_
          rintro x w4 ⟨r4, rfl, H4, R4, G4⟩
          have h4 := H4.out
          have D4 := D3.pick R4 G4
          have z4 := z3.grown G4 (by simp; omega)
          clear D3 z3 R4 G4
          obtain ⟨s0, s1, s2, f0, f1, f2⟩ := D4.sh.cells
          obtain ⟨d0, d1, d2, e0, e1, e2⟩ := z4.cells
          have hz4 := D4.size
          obtain ⟨gb, y, rfl, hB, hgb, HY, g0, g1, g2, gf⟩ := OwnC.at D4.own hp
          have gf0 := gf 0
          have gf2 := gf 2
          clear gf
          have hgw : gb ≠ w1.heap.size := by omega
          have hgw' : gb ≠ w.heap.size := by omega
          have hww : w1.heap.size ≠ w.heap.size := by omega
          rcases (by omega : r4 = 0 ∨ r4 = 1 ∨ r4 = 2) with rfl | rfl | rfl
          · clear f0 f1 f2 s0 s1 s2 d0 d1 d2 e0 e1 e2
            go_wp2_with (at_builtin; refine wpList_appM _ rfl (.tmp 103) (.tmp 107) _ rfl clv_len (by omega) (w1.heap.size + 1) 36 (.agg #[.int .i64 0, .int .i64 0, .int .i64 0]) 24 Try.underlying25 info_call rfl _ nn cc xs rfl (OwnM.alloc D4.own _) _ 1 1 [y] rfl (rdc_one w4 y) clv_one (by unfold maxLen; omega) (by omega) (by simp; omega) ?_; intro A8 c8 w8 O8 G8 L8; have D8 := D4.app O8 G8; have z8 : ShAt w8 w.heap.size 0 0 0 := (z4.alloc _).grown G8 (by rw [blk_some]; simp; omega); obtain ⟨s0, s1, s2, f0, f1, f2⟩ := D8.sh.cells; obtain ⟨d0, d1, d2, e0, e1, e2⟩ := z8.cells)
            refine bodyPost_ret (v := .tuple #[shv o e m, .slice A8 (nn + 1) c8]) (by simp [results, Try.results67, go_sem, d0, d1, d2]) rfl ?_
            exact calls_fin D8 HB.out (by omega) (by omega)
          · have D8 := D4.set (k := 0) (j := 2) (y' := ⟨y.i, y.o, m⟩) (u := .int .i64 m) HY.out (by omega) rfl hB
            go_wp2
            refine bodyPost_ret (v := .tuple #[shv o e m, .slice (some ⟨gb, 0, none⟩) nn cc]) (by simp [results, Try.results67, go_sem, d0, d1, d2]) rfl ?_
            exact calls_fin D8 HB.out (by omega) (by omega)
          · have D8 := D4.set (k := 0) (j := 0) (y' := ⟨-1, y.o, y.v⟩) (u := .int .i64 (-1)) HY.out (by omega) rfl hB
            go_wp2
            refine bodyPost_ret (v := .tuple #[shv o e m, .slice (some ⟨gb, 0, none⟩) nn cc]) (by simp [results, Try.results67, go_sem, d0, d1, d2]) rfl ?_
            exact calls_fin D8 HB.out (by omega) (by omega)
    · obtain ⟨g, rfl⟩ : ∃ g, gk = g + 1 := ⟨gk - 1, by omega⟩
      clear D1 D2 R1 R2 G1 G2
      go_wp2_with fail
      refine (pick_n L D.rd (by omega) (by omega) (by omega)).mono ?_
      rintro x w3 ⟨r3, rfl, H3, R3, G3⟩
      have h3 := H3.out
      have D3 := D.pick R3 G3
      clear D
      go_wp2_with fail
      refine (pick_n L D3.rd (by omega) (by omega) (by omega)).mono ?_
      rintro x w4 ⟨r4, rfl, H4, R4, G4⟩
      have h4 := H4.out
      have D4 := D3.pick R4 G4
      clear D3 R3 G3
      go_wp2_with fail
      refine (pick_n 6 D4.rd (by omega) (by omega) (by omega)).mono ?_
      rintro x w5 ⟨r5, rfl, H5, R5, G5⟩
      have h5 := H5.out
      have D5 := D4.pick R5 G5
      clear D4 R4 G4 R5 G5
      have hz5 := D5.size
      obtain ⟨s0, s1, s2, -⟩ := D5.sh.cells
      by_cases k0 : r5 = 0
      · subst k0
        go_wp2_with fail
        refine (spec_CallDrop o e m A nn cc xs r3 _ (OwnC.rd D5.own) hcap (by omega)).mono ?_
        rintro x w6 ⟨A6, n6, c6, ys, b6, rfl, HP, O6, b7⟩
        have D6 := D5.below b7
        clear D5 s0 s1 s2
        have hn6 : n6 ≤ nn := by
          have h1 := drop_le o e m xs r3
          rw [HP.out] at h1
          have h2 := (OwnC.len O6).out
          have h3 := HLx.out
          simp at h1; omega
        cases b6 with
        | false =>
          go_wp2
          go_roundg g
          case rel => exact ⟨A, nn, cc, xs, by go_num, rfl, by omega, by omega, D6.more (by omega)⟩
          case measure => omega
        | true =>
          go_wp2
          go_roundg g
          case rel => exact ⟨A6, n6, c6, ys, by go_num, rfl, by omega, by omega, (D6.put O6 hz5).more (by omega)⟩
          case measure => omega
      · by_cases k1 : r5 = 1 ∨ r5 = 2
        · have hA5 := D5
          rcases k1 with rfl | rfl
          all_goals
            go_wp2_with fail
            refine (spec_MiddleFree o e m A nn cc xs r3 r4 _ (OwnC.rd D5.own) hcap (by omega)).mono ?_
            rintro x w6 ⟨A6, n6, c6, rfl, O6, b7⟩
            have D6 := D5.below b7
            clear D5 s0 s1 s2 hA5
            have hn6 : n6 ≤ 6 := by
              rw [← O6.len.out]
              exact Nat.le_trans (free_len6 o e m xs r3 r4) (by omega)
            by_cases z6 : n6 = 0
            · subst z6
              go_wp2
              go_roundg g
              case rel => exact ⟨A, nn, cc, xs, by go_num, rfl, by omega, by omega, D6.more (by omega)⟩
              case measure => omega
            · have hp6 : 0 < n6 := by omega
              go_wp2_with fail
              refine (pick_n n6 D6.rd (by omega) (by omega) (by omega)).mono ?_
              rintro x w7 ⟨r7, rfl, H7, R7, G7⟩
              have h7 := H7.out
              have D7 := D6.pick R7 G7
              have O7 := O6.grown G7 (fun gg hh hb => by have h1 := (OwnL.lt O6 hb).1; injection hh with hh; have := D6.lt; have := D6.le; omega)
              clear D6 O6 R7 G7
              obtain ⟨gb, y, rfl, hB, hgb, HY, gc, gf⟩ := O7.at (k := r7) (by omega)
              have hz7 := D7.size
              go_wp2_with (at_builtin; refine wpList_appM _ rfl (.tmp 74) (.tmp 85) _ rfl clv_len (by omega) (w1.heap.size + 1) 36 (.agg #[.int .i64 0, .int .i64 0, .int .i64 0]) 24 Try.underlying25 info_call rfl A nn cc xs rfl (OwnM.alloc D7.own _) _ 1 1 [⟨r3, r4, y⟩] rfl (rdc_one w7 ⟨r3, r4, y⟩) clv_one (by unfold maxLen; omega) (by omega) (by simp; omega) ?_; intro A8 c8 w8 O8 G8 L8)
              have D8 := D7.app O8 G8
              go_wp2
              go_roundg g
              case rel => exact ⟨A8, nn + 1, c8, _, by go_num, rfl, by omega, by omega, D8.more (by omega)⟩
              case measure => omega
        · have k2 : ¬ r5 = 1 := by omega
          have k3 : ¬ r5 = 2 := by omega
          clear k1
          go_wp2_with fail
          refine (spec_CallMove o e m A nn cc xs r3 r4 _ (OwnC.rd D5.own) hcap (by omega)).mono ?_
          rintro x w6 ⟨A6, n6, c6, ys, b6, rfl, HP, O6, b7⟩
          have D6 := D5.below b7
          clear D5 s0 s1 s2
          have hn6 : n6 ≤ nn + 1 := by
            have h1 := move_le o e m xs r3 r4
            rw [HP.out] at h1
            have h2 := (OwnC.len O6).out
            have h3 := HLx.out
            simp at h1; omega
          cases b6 with
          | false =>
            go_wp2
            go_roundg g
            case rel => exact ⟨A, nn, cc, xs, by go_num, rfl, by omega, by omega, D6.more (by omega)⟩
            case measure => omega
          | true =>
            go_wp2
            go_roundg g
            case rel => exact ⟨A6, n6, c6, ys, by go_num, rfl, by omega, by omega, (D6.put O6 hz5).more (by omega)⟩
            case measure => omega
end Go.Proofs.Ytcickfahpcmcdaa
