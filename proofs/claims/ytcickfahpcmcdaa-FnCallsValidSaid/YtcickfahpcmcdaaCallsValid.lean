/- FnCallsValid returns true for every code. No condition. -/
import Derived.Test.YtcickfahpcmcdaaFrame
import Derived.Test.YtcickfahpcmcdaaPerm
import Derived.Test.YtcickfahpcmcdaaAsk2
import Derived.Test.Ytcickfahpcmcdaa4sc
import Derived.Test.Ytcickfahpcmcdaa4w
import Derived.Test.Ytcickfahpcmcdaa4ws
import Derived.Test.Ytcickfahpcmcdaa4vl
namespace Go.Proofs.Ytcickfahpcmcdaa.callsValid
open Go.ChangeShapes Go.WideShapes Go.ChangeAt Go.RowKit
set_option linter.unusedSimpArgs false
set_option linter.unusedVariables false
theorem shapeB_iff {o e m : Int} : shapeB o e m = true ↔ ShapeOk o e m := by
  unfold ShapeOk
  simp [shapeB, inB]
  omega
theorem own_c (w : World) (y : Cl) : OwnC ((w.alloc (.cells #[.int .i64 y.i, .int .i64 y.o, .int .i64 y.v] 36)).alloc (.cells #[] 36)) w.heap.size 36 (some ⟨w.heap.size + 1, 0, none⟩) 0 0 [] := by
  have := OwnM.lit0 (sz := 3) (emb := clv) (B := w.heap.size) (e := 36) (w.alloc (.cells #[.int .i64 y.i, .int .i64 y.o, .int .i64 y.v] 36)) (by simp)
  rwa [show (w.alloc (.cells #[.int .i64 y.i, .int .i64 y.o, .int .i64 y.v] 36)).heap.size = w.heap.size + 1 by simp] at this
section
variable {P : Program} (w : World)
theorem step_wantN {α : Type} {sz : Nat} {emb : α → List Value} {ops : Array Oper} {o : Oper} {a : Act} {K : Act → World → Prop} {Q : Exit → Act → World → Prop} {E : Prop} (hw : Region.wanted o (yielded ops a.tmps) = true) (s x : Operand) (t : TypeId)
    (ho : o.op = .call { callee := .builtin .append, args := #[s, x], argTypes := #[t, t] })
    (hlen : ∀ y, (emb y).length = sz) (hsz : 0 < sz)
    (base : Nat) (e : TypeId) (z : Value) (bytes : Nat) (ht : P.underlying t = some (.slice e)) (hinfo : (P.info? e).map (fun i => (i.zero, i.size, i.bytes)) = some (some z, sz, bytes)) (hzs : z.cells.size = sz)
    (A : Option Addr) (n c : Nat) (ys : List α) (hs : a.eval s = .slice A n c) (hown : OwnM sz emb w base e A n c ys)
    (A' : Option Addr) (m c' : Nat) (zs : List α) (hx : a.eval x = .slice A' m c') (hr : RdM sz emb w A' m zs) (h1 : ∀ y, ∀ u ∈ emb y, u.oneCell' = true)
    (N : Nat) (hN : n + m = N) (ws : List α) (hws : ys ++ zs = ws) (h63 : n + m ≤ maxLen) (hbytes : (n + m) * bytes ≤ 140737488355328) (hbase : base ≤ w.heap.size)
    (h : ∀ A1 c1 w1, OwnM sz emb w1 base e A1 N c1 ws → w.grownBy w1 (blk A) → (blk A1 = blk A ∨ blk A1 = some w.heap.size) → K (a.put o.dst (.slice A1 N c1)) w1) :
    if Region.wanted o (yielded ops a.tmps) = true then Oper.wp P o a w K Q else E := by
  subst hN hws
  rw [if_pos hw]
  have h0 : Region.wanted { o with guard := none } (yielded ops a.tmps) = true := rfl
  have h2 := step_appM (P := P) w (ops := ops) (o := { o with guard := none }) (a := a) (K := K) (Q := Q) (E := E) rfl s x t ho hlen hsz base e z bytes ht hinfo hzs A n c ys hs hown A' m c' zs hx hr h1 h63 hbytes hbase h
  rw [if_pos h0] at h2
  exact h2
end
theorem rdm_drop {w : World} {b off n : Nat} {ys : List Cl} (h : RdC w (some ⟨b, off, none⟩) n ys) (hn : 0 < n) : RdC w (some ⟨b, off + 3, none⟩) (n - 1) (ys.drop 1) := by
  obtain ⟨h1, h2⟩ := h
  obtain ⟨b', off', hA, hc⟩ := h2 hn
  injection hA with hA; injection hA with hA1 hA2; subst hA1 hA2
  refine ⟨by rw [List.length_drop, h1], fun _ => ⟨b, off + 3, rfl, fun k y hy j u hu => ?_⟩⟩
  rw [List.getElem?_drop] at hy
  have := hc (1 + k) y hy j u hu
  rw [show off + 3 + k * 3 + j = off + (1 + k) * 3 + j by omega]
  exact this
set_option maxHeartbeats 4000000 in
set_option maxRecDepth 100000 in
theorem walk (A : Option Addr) (n c : Nat) (zs : List Int) (w : World) (f : RdL (Value.int .u8) w A n zs ∧ n ≤ c ∧ c ≤ maxLen ∧ ∀ z ∈ zs, (Lit.int .u8 z).wf = true) :
    Calls Try.prog 7 #[.slice A n c] w fun e w' => e = .returned (.bool true) ∧ Below w.heap.size w w' := by
  obtain ⟨hx, hc, hm, hz⟩ := f
  have HZ := Lib.hid (bytes_wf hz)
  clear hz
  by_cases hn : n ≤ 1048576
  · go_enter Try.func7, Try.ntmps7
    go_wp2_with fail
    refine (DrawCallsValid_any A n c zs w hx HZ.out hc hn).mono ?_
    rintro x w1 ⟨o, e, m, A1, n1, c1, xs, rfl, HB, hn1, O1, b1⟩
    obtain ⟨ho0, ho1, he0, he1, hm0, hm1⟩ := HB.out
    obtain ⟨M, hM⟩ := Int.eq_ofNat_of_zero_le hm0
    subst hM
    have S1 := ShAt.new w1 o e M
    have O1' := OwnM.alloc O1 (.cells #[.int .i64 o, .int .i64 e, .int .i64 M] 24)
    have hX := OwnC.rd O1'
    have hcap := (OwnM.cap O1).1
    have HLX := hX.len
    have B1 := bbox b1 b1.size (.cells #[.int .i64 o, .int .i64 e, .int .i64 M] 24)
    clear O1 O1'
    obtain ⟨s0, s1, s2, -⟩ := S1.cells
    go_wp2_with fail
    refine (impl_CallsValid o e M A1 n1 c1 xs _ hX hcap (by omega)).mono ?_
    rintro x w2 ⟨v, rfl, HV, b2⟩
    have S2 := S1.below b2
    have B2 := bstep B1 b2
    have hX2 := RdM.below hX b2 (Nat.le_refl _)
    clear s0 s1 s2
    obtain ⟨s0, s1, s2, -⟩ := S2.cells
    go_wp2_with fail
    refine (spec_CallsValid o e M A1 n1 c1 xs _ hX2 hcap (by omega)).mono ?_
    rintro x w3 ⟨v', rfl, HV', b3⟩
    have S3 := S2.below b3
    have B3 := bstep B2 b3
    have hX3 := RdM.below hX2 b3 (Nat.le_refl _)
    clear s0 s1 s2 hX hX2 S1 S2 B1 B2 b2 b3
    obtain ⟨s0, s1, s2, -⟩ := S3.cells
    by_cases hOK : CallsOk o e M xs
    · have hv : v = true := HV.out.2 hOK
      have hv' : v' = true := HV'.out.2 hOK
      subst hv hv'
      have HOK := Lib.hid hOK; clear hOK
      clear HV HV'
      by_cases hn0 : n1 = 0
      · subst hn0
        obtain ⟨b8v, HSB⟩ : ∃ b, Hid (shapeB o e M = b) := ⟨_, rfl⟩
        have HNIL : Hid (∀ wq : World, Calls Try.prog 22 #[shv o e M, .slice none 0 0] wq fun r w' => r = .returned (.bool b8v) ∧ Below wq.heap.size wq w') := fun wq => by
          refine (impl_CallsValid o e M none 0 0 [] wq RdM.nil (Nat.le_refl _) (by omega)).mono ?_
          rintro r w' ⟨v8, rfl, hv8, b8⟩
          refine ⟨?_, b8⟩
          have h1 : v8 = b8v := by
            rw [Bool.eq_iff_iff, hv8.out, calls_nil, ← HSB.out, shapeB_iff]
          rw [h1]
        have HSH : Hid (∀ wq : World, Calls Try.prog 25 #[shv o e M] wq fun r w' => r = .returned (.bool b8v) ∧ Below wq.heap.size wq w') := fun wq => by
          have := impl_ShapeValid o e M wq
          rwa [HSB.out] at this
        have hsc : ∀ p : Bw w3, p.w.cell? ⟨w1.heap.size, 0, none⟩ = some (.int .i64 o) ∧ p.w.cell? ⟨w1.heap.size, 1, none⟩ = some (.int .i64 e) ∧ p.w.cell? ⟨w1.heap.size, 2, none⟩ = some (.int .i64 M) := fun p => ⟨(S3.below p.h).cells.1, (S3.below p.h).cells.2.1, (S3.below p.h).cells.2.2.1⟩
        have hbb : (b8v == b8v) = true := by simp
        clear s0 s1 s2
        go_wp2
        refine wp_region_bw (by kernel_rfl) (by kernel_rfl) ?_
        repeat (go_big_quiet_step (first
          | (go_at_call 22; exact bw_of (HNIL.out _))
          | (go_at_call 25; exact bw_of (HSH.out _))
          | (go_at_call 19; exact bw_of (alive_any _))))
        refine wpQuiet_nil ?_
        intro w5 hw'
        have b5 := bw_out hw'
        clear hw' hsc
        all_goals
          go_wp2
          go_ret
          exact ⟨rfl, bstep B3 b5⟩
      · have hnp : 0 < n1 := by omega
        have hzn : ((n1 : Int) == 0) = false := by simp; omega
        have HVIA : Hid (∀ a : Nat, ((xs.filter fun c => decide (c.v = (a : Int))).length : Int) ≤ o) := fun a => calls_via HOK.out
        go_wp2
        go_loopg [6, 7, 8] M (fun g i s k wr => ∃ a q : Nat, a ≤ M ∧ g = M - a ∧ i = .int .i64 a ∧ wr = w3.drewN q)
        case atStart => exact ⟨0, 0, Nat.zero_le _, rfl, rfl, rfl⟩
        case round =>
          obtain ⟨a, q, ha, rfl, rfl, rfl⟩ := hrel
          by_cases hal : a < M
          · go_wp2
            go_loopg [7, 8] n1 (fun g s k wr => ∃ b q N : Nat, b ≤ n1 ∧ g = n1 - b ∧ k = .int .i64 b ∧ s = .int .i64 N ∧ N ≤ b ∧ Hid (N = ((xs.take b).filter fun c => decide (c.v = (a : Int))).length) ∧ wr = w3.drewN q)
            case atStart => exact ⟨0, q, 0, Nat.zero_le _, rfl, rfl, rfl, Nat.le_refl _, rfl, rfl⟩
            case round =>
              obtain ⟨b, q, N, hb, rfl, rfl, rfl, hNb, HN, rfl⟩ := hrel
              by_cases hbl : b < n1
              · obtain ⟨b0, off, y, rfl, HY, g0, g1, g2⟩ := RdC.at hX3 hbl
                by_cases hya : y.v = (a : Int)
                · have HYA := Lib.hid hya
                  have HN2 : Hid (N + 1 = ((xs.take (b + 1)).filter fun c => decide (c.v = (a : Int))).length) := by
                    show _ = _
                    rw [take_snoc HY.out, List.filter_append, List.length_append, ← HN.out]
                    simp [HYA.out]
                  obtain ⟨yv, hyv⟩ : ∃ z, y.v = z := ⟨_, rfl⟩
                  rw [hyv] at g2 hya
                  subst hya
                  go_wp2
                  go_roundg (n1 - (b + 1))
                  case rel => exact ⟨b + 1, q, N + 1, by omega, rfl, by go_num, by go_num, by omega, HN2, rfl⟩
                  case measure => omega
                · have hyz : (y.v == (a : Int)) = false := by simpa using hya
                  have HYA := Lib.hid hya
                  have HN2 : Hid (N = ((xs.take (b + 1)).filter fun c => decide (c.v = (a : Int))).length) := by
                    show _ = _
                    rw [take_snoc HY.out, List.filter_append, List.length_append, ← HN.out]
                    simp [HYA.out]
                  clear hya
                  go_wp2
                  go_roundg (n1 - (b + 1))
                  case rel => exact ⟨b + 1, q, N, by omega, rfl, by go_num, rfl, by omega, HN2, rfl⟩
                  case measure => omega
              · have hle : decide (o < (N : Int)) = false := by
                  have h1 := HVIA.out a
                  have h2 := HN.out
                  rw [List.take_of_length_le (by rw [HLX.out]; omega)] at h2
                  rw [← h2] at h1
                  simp; omega
                go_wp2
                go_roundg (M - (a + 1))
                case rel => exact ⟨a + 1, q, by omega, rfl, by go_num, rfl⟩
                case measure => omega
          · have SW := S3.drewN q
            have hXW := hX3.drewN q
            have BW := below_drewN B3 q
            clear s0 s1 s2 HVIA B3 S3 hX3
            obtain ⟨W, hW⟩ : ∃ V, w3.drewN q = V := ⟨_, rfl⟩
            rw [hW] at SW hXW BW ⊢
            clear hW
            obtain ⟨b0, f0, y, rfl, HY, g0, g1, g2⟩ := RdC.at hXW hnp
            rw [Nat.zero_mul, Nat.add_zero] at g0 g1 g2
            obtain ⟨s0, s1, s2, -⟩ := SW.cells
            have hg0 := World.block_lt_of_cell? _ _ g0
            have hS0 := SW.lt
            have HNOT : Hid (¬ CallsOk o e M (xs ++ [y])) := calls_twice HY.out
            by_cases hc1e : c1 = 1
            · subst hc1e
              have hn11 : n1 = 1 := by omega
              subst hn11
              have HTAIL : Hid (∀ wq : World, Below W.heap.size W wq → Calls Try.prog 22 #[.agg #[.int .i64 o, .int .i64 e, .int .i64 M], .slice (some ⟨b0, f0, none⟩) 0 0] wq fun r w' => r = .returned (.bool true) ∧ Below wq.heap.size wq w') := fun wq hb => by
                have hT : RdC W (some ⟨b0, f0, none⟩) 0 (xs.drop 1) := ⟨by rw [List.length_drop, HLX.out], fun h => absurd h (by omega)⟩
                refine (impl_CallsValid o e M _ 0 0 (xs.drop 1) wq (RdM.below hT hb (Nat.le_refl _)) (by omega) (by omega)).mono ?_
                rintro r w' ⟨v8, rfl, hv8, b8⟩
                obtain rfl := hv8.out.2 (calls_tail HOK.out)
                exact ⟨rfl, b8⟩
              have h1q : (1 : Int) ≤ (1 : Int) := by omega
              have h1q : (1 : Int) ≤ (1 : Int) := by omega
              have hnp' : (0 : Int) < (1 : Int) := by omega
              go_wp2
              go_region_held3 (fun w' => w'.cell? ⟨w1.heap.size, 0, none⟩ = some (.int .i64 o) ∧ w'.cell? ⟨w1.heap.size, 1, none⟩ = some (.int .i64 e) ∧ w'.cell? ⟨w1.heap.size, 2, none⟩ = some (.int .i64 M) ∧ w'.cell? ⟨b0, f0, none⟩ = some (.int .i64 y.i) ∧ w'.cell? ⟨b0, f0 + 1, none⟩ = some (.int .i64 y.o) ∧ w'.cell? ⟨b0, f0 + 2, none⟩ = some (.int .i64 y.v))
                (first | go_keep | exact ⟨by assumption, by assumption, by assumption, by assumption, by assumption, by assumption⟩)
                (first
                  | (go_at_call 22; (with_reducible refine (HTAIL.out _ (Below.refl _ _).drew).mono ?_); rintro r w6 ⟨rfl, b6⟩; have hb6 : Below W.heap.size W w6 := bstep (Below.refl W.heap.size W).drew b6; have S6 := SW.below hb6; obtain ⟨s0', s1', s2', -⟩ := S6.cells; have g0' := (hb6.cell (p := ⟨b0, f0, none⟩) hg0).trans g0; have hg6 : b0 < w6.heap.size := World.block_lt_of_cell? _ _ g0'; have g1' := (hb6.cell (p := ⟨b0, f0 + 1, none⟩) hg0).trans g1; have g2' := (hb6.cell (p := ⟨b0, f0 + 2, none⟩) hg0).trans g2; have hX6 := RdM.below hXW hb6 (Nat.le_refl _); have hZ6 := hb6.size; have OA : OwnC (w6.alloc (.cells #[] 36)) w6.heap.size 36 (some ⟨w6.heap.size, 0, none⟩) 0 0 [] := OwnM.lit0 w6 (Nat.le_refl _); have OC : OwnC ((w6.alloc (.cells #[.int .i64 y.i, .int .i64 y.o, .int .i64 y.v] 36)).alloc (.cells #[] 36)) w6.heap.size 36 (some ⟨w6.heap.size + 1, 0, none⟩) 0 0 [] := own_c w6 y; have XA := rdc_one w6 y; have XB := rdc_one' w6 (.cells #[] 36) y)
                  | (refine step_wantN _ (by first | rfl | simp [Region.wanted, yielded]) (.tmp 71) (.tmp 72) _ rfl clv_len (by omega) w6.heap.size 36 (.agg #[.int .i64 0, .int .i64 0, .int .i64 0]) 24 Try.underlying25 info_call rfl _ 0 0 [] rfl (by first | exact OA | exact OwnM.alloc OA _ | exact OC) (some ⟨b0, f0, none⟩) 1 1 xs rfl (by first | exact hX6.below (below_box _ _) (Nat.le_refl _) | exact (hX6.below (below_box _ _) (Nat.le_refl _)).below (below_box _ _) (Nat.le_refl _)) clv_one 1 (by omega) xs rfl (by unfold maxLen; omega) (by omega) (by simp; try omega) ?_; intro A5 c5 w7 O5 G5 L5; have B5 : Below w6.heap.size w6 w7 := bgrown (by first | exact below_box w6 _ | exact bstep (below_box w6 _) (below_box _ _)) G5 (by simp; try omega) (by intro g hg; simp [blk] at hg; omega); have S7 := S6.below B5; obtain ⟨s0'', s1'', s2'', -⟩ := S7.cells; have g0'' := (B5.cell (p := ⟨b0, f0, none⟩) hg6).trans g0'; have g1'' := (B5.cell (p := ⟨b0, f0 + 1, none⟩) hg6).trans g1'; have g2'' := (B5.cell (p := ⟨b0, f0 + 2, none⟩) hg6).trans g2'; first | have X5 := RdM.grown XB G5 (by simp [blk]) | have X5 := RdM.grown (XA.below (below_box _ _) (Nat.le_refl _)) G5 (by simp [blk]) | skip)
                  | (refine step_wantN _ (by first | rfl | simp [Region.wanted, yielded]) (.tmp 73) (.tmp 77) _ rfl clv_len (by omega) w6.heap.size 36 (.agg #[.int .i64 0, .int .i64 0, .int .i64 0]) 24 Try.underlying25 info_call rfl A5 1 c5 xs rfl (by first | exact O5 | exact OwnM.alloc O5 _) _ 1 1 [y] rfl (by first | exact X5 | exact rdc_one w7 y) clv_one (1 + 1) rfl (xs ++ [y]) rfl (by unfold maxLen; omega) (by omega) (by first | exact B5.size | (simp; have := B5.size; omega)) ?_; intro A6 c6 w8 O6 G6 L6; have B6 : Below w6.heap.size w6 w8 := bgrown (by first | exact B5 | exact bstep B5 (below_box _ _)) G6 (by first | exact B5.size | (simp; have := B5.size; omega)) (fun g hg => (OwnM.lt O5 hg).1); have S8 := S6.below B6; obtain ⟨s0x, s1x, s2x, -⟩ := S8.cells; have g0x := (B6.cell (p := ⟨b0, f0, none⟩) hg6).trans g0'; have g1x := (B6.cell (p := ⟨b0, f0 + 1, none⟩) hg6).trans g1'; have g2x := (B6.cell (p := ⟨b0, f0 + 2, none⟩) hg6).trans g2')
                  | (go_simp; go_at_call 22; (refine (impl_CallsValid o e M A6 (1 + 1) c6 (xs ++ [y]) w8 (OwnC.rd O6) (OwnM.cap O6).1 (by omega)).mono ?_); rintro r w9 ⟨v9, rfl, HV9, b9⟩; have hv9 : v9 = false := (by cases v9 with | false => rfl | true => exact absurd (HV9.out.1 rfl) HNOT.out); subst hv9; clear HV9; have S9 := S8.below b9; obtain ⟨s0y, s1y, s2y, -⟩ := S9.cells; have hg8 : b0 < w8.heap.size := World.block_lt_of_cell? _ _ g0x; have g0y := (b9.cell (p := ⟨b0, f0, none⟩) hg8).trans g0x; have g1y := (b9.cell (p := ⟨b0, f0 + 1, none⟩) hg8).trans g1x; have g2y := (b9.cell (p := ⟨b0, f0 + 2, none⟩) hg8).trans g2x; go_wp2_with fail)
                  | fail)
              all_goals
                go_wp2_with fail
                go_ret
                exact ⟨rfl, bstep (bstep (bstep BW hb6) B6) b9⟩
            · have HTAIL : Hid (∀ wq : World, Below W.heap.size W wq → Calls Try.prog 22 #[.agg #[.int .i64 o, .int .i64 e, .int .i64 M], .slice (some ⟨b0, f0 + 3, none⟩) (n1 - 1) (c1 - 1)] wq fun r w' => r = .returned (.bool true) ∧ Below wq.heap.size wq w') := fun wq hb => by
                have hT : RdC W (some ⟨b0, f0 + 3, none⟩) (n1 - 1) (xs.drop 1) := rdm_drop hXW hnp
                refine (impl_CallsValid o e M _ (n1 - 1) (c1 - 1) (xs.drop 1) wq (RdM.below hT hb (Nat.le_refl _)) (by omega) (by omega)).mono ?_
                rintro r w' ⟨v8, rfl, hv8, b8⟩
                obtain rfl := hv8.out.2 (calls_tail HOK.out)
                exact ⟨rfl, b8⟩
              have hn1' : (1 : Int) ≤ (n1 : Int) := by omega
              have hc1' : (1 : Int) ≤ (c1 : Int) := by omega
              have hnp' : (0 : Int) < (n1 : Int) := by omega
              go_wp2
              go_region_held3 (fun w' => w'.cell? ⟨w1.heap.size, 0, none⟩ = some (.int .i64 o) ∧ w'.cell? ⟨w1.heap.size, 1, none⟩ = some (.int .i64 e) ∧ w'.cell? ⟨w1.heap.size, 2, none⟩ = some (.int .i64 M) ∧ w'.cell? ⟨b0, f0, none⟩ = some (.int .i64 y.i) ∧ w'.cell? ⟨b0, f0 + 1, none⟩ = some (.int .i64 y.o) ∧ w'.cell? ⟨b0, f0 + 2, none⟩ = some (.int .i64 y.v))
                (first | go_keep | exact ⟨by assumption, by assumption, by assumption, by assumption, by assumption, by assumption⟩)
                (first
                  | (go_at_call 22; (with_reducible refine (HTAIL.out _ (Below.refl _ _).drew).mono ?_); rintro r w6 ⟨rfl, b6⟩; have hb6 : Below W.heap.size W w6 := bstep (Below.refl W.heap.size W).drew b6; have S6 := SW.below hb6; obtain ⟨s0', s1', s2', -⟩ := S6.cells; have g0' := (hb6.cell (p := ⟨b0, f0, none⟩) hg0).trans g0; have hg6 : b0 < w6.heap.size := World.block_lt_of_cell? _ _ g0'; have g1' := (hb6.cell (p := ⟨b0, f0 + 1, none⟩) hg0).trans g1; have g2' := (hb6.cell (p := ⟨b0, f0 + 2, none⟩) hg0).trans g2; have hX6 := RdM.below hXW hb6 (Nat.le_refl _); have hZ6 := hb6.size; have OA : OwnC (w6.alloc (.cells #[] 36)) w6.heap.size 36 (some ⟨w6.heap.size, 0, none⟩) 0 0 [] := OwnM.lit0 w6 (Nat.le_refl _); have OC : OwnC ((w6.alloc (.cells #[.int .i64 y.i, .int .i64 y.o, .int .i64 y.v] 36)).alloc (.cells #[] 36)) w6.heap.size 36 (some ⟨w6.heap.size + 1, 0, none⟩) 0 0 [] := own_c w6 y; have XA := rdc_one w6 y; have XB := rdc_one' w6 (.cells #[] 36) y)
                  | (refine step_wantN _ (by first | rfl | simp [Region.wanted, yielded]) (.tmp 71) (.tmp 72) _ rfl clv_len (by omega) w6.heap.size 36 (.agg #[.int .i64 0, .int .i64 0, .int .i64 0]) 24 Try.underlying25 info_call rfl _ 0 0 [] rfl (by first | exact OA | exact OwnM.alloc OA _ | exact OC) (some ⟨b0, f0, none⟩) n1 c1 xs rfl (by first | exact hX6.below (below_box _ _) (Nat.le_refl _) | exact (hX6.below (below_box _ _) (Nat.le_refl _)).below (below_box _ _) (Nat.le_refl _)) clv_one n1 (by omega) xs rfl (by unfold maxLen; omega) (by omega) (by simp; try omega) ?_; intro A5 c5 w7 O5 G5 L5; have B5 : Below w6.heap.size w6 w7 := bgrown (by first | exact below_box w6 _ | exact bstep (below_box w6 _) (below_box _ _)) G5 (by simp; try omega) (by intro g hg; simp [blk] at hg; omega); have S7 := S6.below B5; obtain ⟨s0'', s1'', s2'', -⟩ := S7.cells; have g0'' := (B5.cell (p := ⟨b0, f0, none⟩) hg6).trans g0'; have g1'' := (B5.cell (p := ⟨b0, f0 + 1, none⟩) hg6).trans g1'; have g2'' := (B5.cell (p := ⟨b0, f0 + 2, none⟩) hg6).trans g2'; first | have X5 := RdM.grown XB G5 (by simp [blk]) | have X5 := RdM.grown (XA.below (below_box _ _) (Nat.le_refl _)) G5 (by simp [blk]) | skip)
                  | (refine step_wantN _ (by first | rfl | simp [Region.wanted, yielded]) (.tmp 73) (.tmp 77) _ rfl clv_len (by omega) w6.heap.size 36 (.agg #[.int .i64 0, .int .i64 0, .int .i64 0]) 24 Try.underlying25 info_call rfl A5 n1 c5 xs rfl (by first | exact O5 | exact OwnM.alloc O5 _) _ 1 1 [y] rfl (by first | exact X5 | exact rdc_one w7 y) clv_one (n1 + 1) rfl (xs ++ [y]) rfl (by unfold maxLen; omega) (by omega) (by first | exact B5.size | (simp; have := B5.size; omega)) ?_; intro A6 c6 w8 O6 G6 L6; have B6 : Below w6.heap.size w6 w8 := bgrown (by first | exact B5 | exact bstep B5 (below_box _ _)) G6 (by first | exact B5.size | (simp; have := B5.size; omega)) (fun g hg => (OwnM.lt O5 hg).1); have S8 := S6.below B6; obtain ⟨s0x, s1x, s2x, -⟩ := S8.cells; have g0x := (B6.cell (p := ⟨b0, f0, none⟩) hg6).trans g0'; have g1x := (B6.cell (p := ⟨b0, f0 + 1, none⟩) hg6).trans g1'; have g2x := (B6.cell (p := ⟨b0, f0 + 2, none⟩) hg6).trans g2')
                  | (go_simp; go_at_call 22; (refine (impl_CallsValid o e M A6 (n1 + 1) c6 (xs ++ [y]) w8 (OwnC.rd O6) (OwnM.cap O6).1 (by omega)).mono ?_); rintro r w9 ⟨v9, rfl, HV9, b9⟩; have hv9 : v9 = false := (by cases v9 with | false => rfl | true => exact absurd (HV9.out.1 rfl) HNOT.out); subst hv9; clear HV9; have S9 := S8.below b9; obtain ⟨s0y, s1y, s2y, -⟩ := S9.cells; have hg8 : b0 < w8.heap.size := World.block_lt_of_cell? _ _ g0x; have g0y := (b9.cell (p := ⟨b0, f0, none⟩) hg8).trans g0x; have g1y := (b9.cell (p := ⟨b0, f0 + 1, none⟩) hg8).trans g1x; have g2y := (b9.cell (p := ⟨b0, f0 + 2, none⟩) hg8).trans g2x; go_wp2_with fail)
                  | fail)
              all_goals
                go_wp2_with fail
                go_ret
                exact ⟨rfl, bstep (bstep (bstep BW hb6) B6) b9⟩
    · have hv : v = false := by
        cases v with
        | false => rfl
        | true => exact absurd (HV.out.1 rfl) hOK
      have hv' : v' = false := by
        cases v' with
        | false => rfl
        | true => exact absurd (HV'.out.1 rfl) hOK
      subst hv hv'
      clear HV HV' hOK
      obtain ⟨b8v, HSB⟩ : ∃ b, Hid (shapeB o e M = b) := ⟨_, rfl⟩
      have HNIL : Hid (∀ wq : World, Calls Try.prog 22 #[shv o e M, .slice none 0 0] wq fun r w' => r = .returned (.bool b8v) ∧ Below wq.heap.size wq w') := fun wq => by
        refine (impl_CallsValid o e M none 0 0 [] wq RdM.nil (Nat.le_refl _) (by omega)).mono ?_
        rintro r w' ⟨v8, rfl, hv8, b8⟩
        refine ⟨?_, b8⟩
        have h1 : v8 = b8v := by
          rw [Bool.eq_iff_iff, hv8.out, calls_nil, ← HSB.out, shapeB_iff]
        rw [h1]
      have HSH : Hid (∀ wq : World, Calls Try.prog 25 #[shv o e M] wq fun r w' => r = .returned (.bool b8v) ∧ Below wq.heap.size wq w') := fun wq => by
        have := impl_ShapeValid o e M wq
        rwa [HSB.out] at this
      have hsc : ∀ p : Bw w3, p.w.cell? ⟨w1.heap.size, 0, none⟩ = some (.int .i64 o) ∧ p.w.cell? ⟨w1.heap.size, 1, none⟩ = some (.int .i64 e) ∧ p.w.cell? ⟨w1.heap.size, 2, none⟩ = some (.int .i64 M) := fun p => ⟨(S3.below p.h).cells.1, (S3.below p.h).cells.2.1, (S3.below p.h).cells.2.2.1⟩
      have hbb : (b8v == b8v) = true := by simp
      clear s0 s1 s2
      go_wp2
      refine wp_region_bw (by kernel_rfl) (by kernel_rfl) ?_
      repeat (go_big_quiet_step (first
        | (go_at_call 22; exact bw_of (HNIL.out _))
        | (go_at_call 25; exact bw_of (HSH.out _))
        | (go_at_call 19; exact bw_of (alive_any _))))
      refine wpQuiet_nil ?_
      intro w5 hw'
      have b5 := bw_out hw'
      clear hw' hsc
      all_goals
        go_wp2
        go_ret
        exact ⟨rfl, bstep B3 b5⟩
  · go_enter Try.func7, Try.ntmps7
    go_wp2
    go_ret
    exact ⟨rfl, Below.refl _ _⟩
set_option maxRecDepth 100000 in
theorem lifted (os : Os) (started : os.Started) (H : Type) (enc : TypeId × Value → H) :
    ReturnsInHanded {} Try.checked os 7 .any (Rows.fnCallsValidSpec.pre6 enc Try.prog Try.f7 Rows.fnCallsValidRow.domain false) (Rows.fnCallsValidSpec.post enc Try.prog Try.f7 false true false false) := by
  refine returnsInHanded_of_change (C := Try.checked) own started (by kernel_rfl) Try.func7
    (ChangeSpec.witness6 (enc := enc) (C := Try.checked) false ⟨#[], #[.slice none 0 0], []⟩ 8 (by kernel_rfl) (by kernel_rfl) (by kernel_rfl) (by kernel_rfl)) ?_
  intro W base args ds gs before hval0 hW hcnd _
  have hval : ∀ (j : Nat) t v, Try.f7.params[j]? = some t → args[j]? = some v → Value.okWide Try.prog W .any base t v := hval0
  have hW' := hW
  obtain ⟨p, q, hA0, hV, rfl, hfz, hnd⟩ := hW
  have hA : DataW.TrodAll enc Try.prog W 0 (fun _ => true) true Try.f7.params.toList args.toList ds p := hA0
  rw [Try.params7] at hA hval
  obtain ⟨v0, vs0, d0, ds0, p0, q0, hargs, rfl, rfl, k0, r0⟩ := trodAll_cons hA
  obtain ⟨rfl, rfl, rfl⟩ := trodAll_nil r0
  obtain rfl : args = #[v0] := by cases args; simp_all
  obtain ⟨rfl, rfl⟩ := trodVars_none hV
  have lt0 : ∀ x ∈ p0, x.block < W.heap.size := by obtain ⟨m, hm⟩ := k0; exact DataW.trod_lt m _ _ _ hm
  obtain ⟨a0, n0, c0, rfl⟩ := okWide_slice Try.underlying22 (hval 0 22 v0 rfl rfl)
  obtain ⟨z0, f0⟩ := open_bytes (W := W) k0
  clear hA0 hval0
  refine (walk a0 n0 c0 z0 W f0).mono fun e W' ⟨he, bel⟩ => ?_
  subst he
  exact ⟨_, rfl, _, _, _, [], _, [], hW', trodAll_mk1 (shut_bool Try.underlying4 _), (trodAll_cons_mk (Below.trod laidOut (by kernel_rfl) (of_decide_eq_true (by kernel_rfl)) k0 bel lt0) trodAll_mk0), rfl, bel.frame _, fun h => by cases h⟩
theorem closed : joinedFacts Try.pinned.checked.prog 7 Try.f7 Rows.fnCallsValidSpec Rows.fnCallsValidRow = true := by
  unfold joinedFacts
  repeat' (with_reducible refine Bool.and_eq_true_iff.2 ⟨?_, ?_⟩)
  · kernel_rfl
  · exact laidOut
  · kernel_rfl
  · kernel_rfl
  · kernel_rfl
  · kernel_rfl
  · kernel_rfl
  · kernel_rfl
  · kernel_rfl
  · kernel_rfl
  · kernel_rfl
  · kernel_rfl
  · kernel_rfl
  · kernel_rfl
  · kernel_rfl
  · kernel_rfl
  · kernel_rfl
  · kernel_rfl
  · kernel_rfl
  · kernel_rfl
  · kernel_rfl
  · kernel_rfl
  · kernel_rfl
  · kernel_rfl
  · kernel_rfl
  · exact heavy.1
  · exact heavy.2.1
  · exact heavy.2.2
  · kernel_rfl
  · kernel_rfl
  · kernel_rfl
  · kernel_rfl
theorem over : Rows.fnCallsValidRow.holds Try.pinned (OpenSpec.ofChange Rows.fnCallsValidSpec) :=
  OpenClaim.holds_of_wide 7 Try.f7 rfl rfl rfl rfl rfl rfl rfl ⟨rfl, rfl, rfl, rfl, rfl⟩ rfl rfl rfl rfl rfl (by kernel_rfl) Try.func7 closed
    (of_decide_eq_true (by kernel_rfl)) (by unfold Func.isWrapper; first | (rw [if_pos (by decide +kernel)]; kernel_rfl) | (rw [if_neg (by decide +kernel)]; exact ⟨rfl, rfl⟩))
    (fun os started H enc _ => lifted os started H enc)
theorem proved : Rows.FnCallsValidSaid := over
#print axioms proved
end Go.Proofs.Ytcickfahpcmcdaa.callsValid
