/- CallMove of the program. Condition: at most 1048576 calls. -/
import Derived.Test.Ytcickfahpcmcdaa4mp
namespace Go.Proofs.Ytcickfahpcmcdaa
open Go.RowKit
set_option linter.unusedSimpArgs false
set_option linter.unusedVariables false
set_option maxRecDepth 100000 in
set_option maxHeartbeats 4000000 in
theorem impl_CallMove (o e m : Int) (A : Option Addr) (n c : Nat) (xs : List Cl) (i q : Int) (w : World) (hx : RdC w A n xs) (hc : n ≤ c) (hn : n ≤ 1048576) :
    Calls Try.prog 14 #[shv o e m, .slice A n c, .int .i64 i, .int .i64 q] w (RetCB (moveL o e m xs i q) w) := by
  have B0 := below_box w (.cells #[.int .i64 o, .int .i64 e, .int .i64 m] 24)
  have S0 := ShAt.new w o e m
  have HL := hx.len
  cases hen : enoughB o e m with
  | false =>
    have HE := Lib.hid hen; clear hen
    go_enter Try.func14, Try.ntmps14
    go_wp2_with fail
    refine (impl_Enough o e m _).mono ?_
    rintro r w1 ⟨rfl, b1⟩
    rw [HE.out]
    go_wp2
    go_ret2
    exact RetCB.mk [] (move_neg (fun h => by have := enough_ok.2 ⟨h.1.1, h.2⟩; rw [HE.out] at this; cases this)) OwnM.nil (bstep B0 b1)
  | true =>
    have HE := Lib.hid hen; clear hen
    obtain ⟨⟨hs1, hs2, hs3, hs4, hs5, hs6⟩, hem⟩ := enough_ok.1 HE.out
    obtain ⟨hp1, hp2⟩ := prod_bd (enough_ok.1 HE.out).1
    obtain ⟨M, rfl⟩ : ∃ M : Nat, m = (M : Int) := ⟨m.toNat, by omega⟩
    by_cases hok : CallsOk o e M xs
    · have hn12 : n ≤ 12 := by rw [← HL.out]; exact callsOk_len hok
      have HC := Lib.hid hok; clear hok
      go_enter Try.func14, Try.ntmps14
      go_wp2_with fail
      refine (impl_Enough o e M _).mono ?_
      rintro r w1 ⟨rfl, b1⟩
      rw [HE.out]
      have B1 := bstep B0 b1
      have S1 := S0.below b1
      obtain ⟨s0, s1, s2, -⟩ := S1.cells
      go_wp2_with fail
      refine (impl_CallsValid o e M A n c xs _ (hx.below B1 (Nat.le_refl _)) hc hn).mono ?_
      rintro r w2 ⟨v2, rfl, hv2, b2⟩
      obtain rfl := hv2.out.2 HC.out
      clear hv2 s0 s1 s2
      have B2 := bstep B1 b2
      have S2 := S1.below b2
      go_wp2_with fail
      refine (impl_copyCalls A n c xs _ (hx.below B2 (Nat.le_refl _)) hn).mono ?_
      rintro r w3 ⟨A3, n3, c3, rfl, HL3, O3, b3⟩
      obtain rfl : n = n3 := by rw [← HL3.out, ← HL.out]
      have B3 := bstep B2 b3
      have S3 := S2.below b3
      have hb2 := B2.size
      obtain ⟨s0, s1, s2, -⟩ := S3.cells
      go_wp2_with fail
      refine (impl_linesFree o e M A n c xs i q _ (hx.below B3 (Nat.le_refl _)) hn HC.out.1).mono ?_
      rintro r w4 ⟨v4, rfl, hv4, b4⟩
      have B4 := bstep B3 b4
      have S4 := S3.below b4
      have O4 := OwnM.below O3 b4 (Nat.le_refl _)
      clear s0 s1 s2
      cases v4 with
      | false =>
        have HN : Hid (¬ LinesFree o e xs i q) := fun h => by have := hv4.out.2 h; cases this
        clear hv4
        go_wp2
        go_ret2
        exact RetCB.mk xs (move_busy HC.out hem HN.out) (OwnM.mono O4 hb2) B4
      | true =>
        have HLF : Hid (LinesFree o e xs i q) := hv4.out.1 rfl
        clear hv4
        obtain ⟨s0, s1, s2, -⟩ := S4.cells
        go_wp2_with fail
        refine (impl_MiddleFree o e M A n c xs i q _ (hx.below B4 (Nat.le_refl _)) hc hn).mono ?_
        rintro r w5 ⟨A5, n5, c5, rfl, O5, b5⟩
        have B5 := bstep B4 b5
        have S5 := S4.below b5
        have HL5 := O5.len
        have R5 := OwnM.below O4 b5 (Nat.le_refl _)
        have hb5 := B5.size
        have hbs3 := b3.size
        have hbs4 := b4.size
        have hbs5 := b5.size
        clear s0 s1 s2
        by_cases hz : n5 = 0
        · subst hz
          have HF : Hid (freeL o e M xs i q = []) := List.eq_nil_of_length_eq_zero HL5.out
          have HCH := Lib.hid (chn_of HC.out hem HLF.out HF.out)
          obtain ⟨⟨hi0, hi1⟩, ⟨hq0, hq1⟩, -⟩ := HLF.out
          have HQ1 := Lib.hid (IntWalk.i64_quo i e ⟨hi0, by omega, hs3⟩)
          have HQ2 := Lib.hid (IntWalk.i64_quo q e ⟨hq0, by omega, hs3⟩)
          have HE0 : Hid (¬ e = 0) := by show ¬ e = 0; omega
          obtain ⟨a, HA⟩ : ∃ a, Hid (a = moveA e M xs i) := ⟨_, rfl⟩
          obtain ⟨b, HB⟩ : ∃ b, Hid (b = moveB e M xs q) := ⟨_, rfl⟩
          have HCH2 : Hid (Chn o e M a b (q / e) xs) := by show Chn o e M a b (q / e) xs; rw [HA.out, HB.out]; exact HCH.out
          have HEND : Hid (∀ t, chainJ xs e a b (q / e) t = none → moveL o e M xs i q = (flips xs e a b (q / e) t ++ [⟨i, q, a⟩], true)) := by
            show ∀ t, _
            rw [HA.out, HB.out]
            exact fun t ht => move_chain HC.out hem HLF.out HF.out ht
          clear HCH
          obtain ⟨s0, s1, s2, -⟩ := S5.cells
          go_wp2
          have q1 := HQ1.out
          have e0 := HE0.out
          have hx5 := hx.below B5.drew (Nat.le_refl _)
          go_region_held3 (fun w' => w'.cell? ⟨w.heap.size, 0, none⟩ = some (.int .i64 o) ∧ w'.cell? ⟨w.heap.size, 1, none⟩ = some (.int .i64 e) ∧ w'.cell? ⟨w.heap.size, 2, none⟩ = some (.int .i64 M))
            (first | go_keep | exact ⟨by assumption, by assumption, by assumption⟩)
            (first
              | (go_at_call 53; (refine (impl_middlesFrom o e M A n c xs (i / e) _ hx5 hn HC.out).mono ?_); rintro r w6 ⟨A6, n6, c6, rfl, HN6, O6, b6⟩; have S6 : ShAt w6 w.heap.size o e M := ShAt.below S5.drew b6; obtain ⟨s0', s1', s2', -⟩ := S6.cells; obtain rfl : M = n6 := (by rw [HN6.out]; simp [tabOf]))
              | (go_at_call 52; (refine (impl_firstUnused A6 M c6 (usedFrom e xs (i / e)) _ O6.rd (by omega)).mono ?_); rintro r w7 ⟨rfl, b7⟩; have S7 : ShAt w7 w.heap.size o e M := ShAt.below S6 b7; obtain ⟨s0', s1', s2', -⟩ := S7.cells))
          clear q1 e0 s0 s1 s2 s0' s1' s2'
          have B7 := bstep (bstep B5.drew b6) b7
          have R7 := OwnM.below (OwnM.below (ownm_drew R5) b6 (Nat.le_refl _)) b7 (Nat.le_refl _)
          rw [show firstV M (usedFrom e xs (i / e)) = a from HA.out.symm]
          obtain ⟨s0, s1, s2, -⟩ := S7.cells
          go_wp2
          have q2 := HQ2.out
          have e0 := HE0.out
          have hx7 := hx.below B7.drew (Nat.le_refl _)
          go_region_held3 (fun w' => w'.cell? ⟨w.heap.size, 0, none⟩ = some (.int .i64 o) ∧ w'.cell? ⟨w.heap.size, 1, none⟩ = some (.int .i64 e) ∧ w'.cell? ⟨w.heap.size, 2, none⟩ = some (.int .i64 M))
            (first | go_keep | exact ⟨by assumption, by assumption, by assumption⟩)
            (first
              | (go_at_call 54; (refine (impl_middlesTo o e M A n c xs (q / e) _ hx7 hn HC.out).mono ?_); rintro r w8 ⟨A8, n8, c8, rfl, HN8, O8, b8⟩; have S8 : ShAt w8 w.heap.size o e M := ShAt.below S7.drew b8; obtain ⟨s0', s1', s2', -⟩ := S8.cells; obtain rfl : M = n8 := (by rw [HN8.out]; simp [tabOf]))
              | (go_at_call 52; (refine (impl_firstUnused A8 M c8 (usedTo e xs (q / e)) _ O8.rd (by omega)).mono ?_); rintro r w9 ⟨rfl, b9⟩; have S9 : ShAt w9 w.heap.size o e M := ShAt.below S8 b9; obtain ⟨s0', s1', s2', -⟩ := S9.cells))
          clear q2 e0 s0 s1 s2 s0' s1' s2'
          have B9 := bstep (bstep B7.drew b8) b9
          have R9 := OwnM.below (OwnM.below (ownm_drew R7) b8 (Nat.le_refl _)) b9 (Nat.le_refl _)
          rw [show firstV M (usedTo e xs (q / e)) = b from HB.out.symm]
          obtain ⟨s0, s1, s2, -⟩ := S9.cells
          go_wp2
          have q2 := HQ2.out
          have e0 := HE0.out
          have r9 := rdm_drew (OwnC.rd R9)
          have HLN : Hid (∀ c ∈ xs, 0 ≤ c.o ∧ c.o ≤ 1000) := fun c hc => (flips_lines HCH2.out 0 c hc).2
          go_region_held3 (fun w' => w'.cell? ⟨w.heap.size, 0, none⟩ = some (.int .i64 o) ∧ w'.cell? ⟨w.heap.size, 1, none⟩ = some (.int .i64 e) ∧ w'.cell? ⟨w.heap.size, 2, none⟩ = some (.int .i64 M))
            (first | go_keep | exact ⟨by assumption, by assumption, by assumption⟩)
            ((go_at_call 55; (refine (impl_callTo o e M A3 n c3 xs (q / e) a (-1) _ r9 hn hs3 HLN.out).mono ?_); rintro r wa ⟨ra, rfl, HRA, ba⟩; have Sa : ShAt wa w.heap.size o e M := ShAt.below S9.drew ba; obtain ⟨s0', s1', s2', -⟩ := Sa.cells))
          clear q2 e0 s0 s1 s2 s0' s1' s2'
          have Ba := bstep B9.drew ba
          have Ra := OwnM.below (ownm_drew R9) ba (Nat.le_refl _)
          have hra : ra = atI xs e a b (q / e) 0 := found_zero HCH2.out HRA.out
          have HRA2 := Lib.hid hra; clear hra HRA
          go_wp2
          have hb2' : w.heap.size < w2.heap.size := S2.lt
          rw [HRA2.out]
          go_loopg [14] n (fun g s14 wr => ∃ s : Nat, g = n - 2 * s ∧ s14 = .int .i64 (atI xs e a b (q / e) (2 * s)) ∧ OwnC wr w2.heap.size 36 A3 n c3 (flips xs e a b (q / e) (2 * s)) ∧ ShAt wr w.heap.size o e M ∧ Below w.heap.size w wr)
          case atStart => exact ⟨0, rfl, rfl, Ra, Sa, Ba⟩
          case round =>
            obtain ⟨s, rfl, rfl, hown, SW, BW⟩ := hrel
            cases hch : chainJ xs e a b (q / e) (2 * s) with
            | none =>
              rw [atI_none hch]
              have HNN := Lib.hid hch; clear hch
              go_wp2_with (at_builtin; refine wpList_appM _ rfl (.tmp 114) (.tmp 119) _ rfl clv_len (by omega) w.heap.size 36 (.agg #[.int .i64 0, .int .i64 0, .int .i64 0]) 24 Try.underlying25 info_call rfl _ n c3 _ rfl (OwnM.alloc (OwnM.mono hown hb2) _) _ 1 1 [⟨i, q, a⟩] rfl (rdc_one wr ⟨i, q, a⟩) clv_one (by unfold maxLen; omega) (by omega) (by simp; have := (BW).size; omega) ?_; intro Az cz wz Oz Gz Lz)
              have Bz := bgrown (bbox (BW) (BW).size _) Gz (by simp; have := (BW).size; omega) (fun g hg => by have := (OwnM.lt hown hg).1; omega)
              go_ret2
              exact RetCB.mk _ (HEND.out (2 * s) HNN.out) Oz Bz
            | some l =>
              rw [atI_some hch]
              have hlt : 2 * s < n := by rw [← HL.out]; exact chain_lt HCH2.out hch
              have HCH0 := Lib.hid hch; clear hch
              obtain ⟨d, HD1, HF1, HVI1⟩ : ∃ d, Hid (xs[l]? = some d) ∧ Hid ((flips xs e a b (q / e) (2 * s))[l]? = some d) ∧ Hid (d.v = viaJ a b (2 * s)) := flips_here HCH2.out HCH0.out
              have hln1 : l < n := by have h1 := (List.getElem?_eq_some_iff.1 HD1.out).1; rw [HL.out] at h1; exact h1
              obtain ⟨hdi1, hdo1⟩ := flips_lines HCH2.out (2 * s) d (List.mem_of_getElem? HF1.out)
              obtain ⟨hdi1, hdi1'⟩ := hdi1
              obtain ⟨hdo1, hdo1'⟩ := hdo1
              have HQ10 := Lib.hid (IntWalk.i64_quo d.i e ⟨by omega, by omega, hs3⟩)
              obtain ⟨g1, y1, hA1, hgB1, hgl1, HY1, kc0, kc1, kc2, kf⟩ := OwnC.at hown hln1
              obtain rfl : d = y1 := by have h1 := HF1.out; rw [HY1.out] at h1; injection h1 with h1; exact h1.symm
              subst hA1
              have kf2 := kf (l * 3 + 2)
              have HKF := Lib.hid kf; clear kf
              have hown1 : OwnC (wr.setCell ⟨g1, l * 3 + 2, none⟩ (.int .i64 b)) w2.heap.size 36 (some ⟨g1, 0, none⟩) n c3 (flips xs e a b (q / e) (2 * s + 1)) := by
                have h1 := OwnM.set1 clv_len (j := 2) (y' := ⟨d.i, d.o, b⟩) (u := .int .i64 b) hown HF1.out (by omega) rfl
                have h2 := flips_set HCH2.out HCH0.out HF1.out HVI1.out
                rw [via_odd] at h2
                rwa [h2] at h1
              obtain ⟨s0, s1, s2, -⟩ := SW.cells
              go_wp2
              obtain ⟨W1, HW1⟩ : ∃ W1, Hid (W1 = wr.setCell ⟨g1, l * 3 + 2, none⟩ (.int .i64 b)) := ⟨_, rfl⟩
              rw [← HW1.out] at hown1
              have Sx1 : ShAt W1 w.heap.size o e M := by rw [HW1.out]; exact (Below.heap_setCell _ _ _ _ (by show w.heap.size ≠ g1; omega)).trans SW
              have Bx1 : Below w.heap.size w W1 := by rw [HW1.out]; exact (BW).setCell (by show w.heap.size ≤ g1; omega) _
              rw [← HW1.out]
              clear s0 s1 s2 kc0 kc1 kc2 kf2
              obtain ⟨s0, s1, s2, -⟩ := Sx1.cells
              obtain ⟨g9, y9, hA9, -, -, HY9, k0, k1, k2, -⟩ := OwnC.at hown1 hln1
              injection hA9 with hA9; injection hA9 with hA9; subst hA9
              have hy9 : y9.i = d.i ∧ y9.o = d.o := by
                have h1 := HY9.out
                have h2 := flips_set HCH2.out HCH0.out HF1.out HVI1.out
                rw [← h2, List.getElem?_set, if_pos rfl, if_pos (List.getElem?_eq_some_iff.1 HF1.out).1] at h1
                injection h1 with h1
                rw [← h1]; exact ⟨rfl, rfl⟩
              rw [hy9.1] at k0
              rw [hy9.2] at k1
              clear hy9
              have q9 := HQ10.out
              have e0 := HE0.out
              have r91 := rdm_drew (OwnC.rd hown1)
              have hl0 : (0 : Int) ≤ (l : Int) := Int.natCast_nonneg _
              have hl1 : (l : Int) < (n : Int) := by omega
              go_region_held3 (fun w' => w'.cell? ⟨w.heap.size, 0, none⟩ = some (.int .i64 o) ∧ w'.cell? ⟨w.heap.size, 1, none⟩ = some (.int .i64 e) ∧ w'.cell? ⟨w.heap.size, 2, none⟩ = some (.int .i64 M) ∧ w'.cell? ⟨g1, l * 3, none⟩ = some (.int .i64 d.i))
                (first | go_keep | exact ⟨by assumption, by assumption, by assumption, by assumption⟩)
                ((go_at_call 56; (refine (impl_callFrom o e M (some ⟨g1, 0, none⟩) n c3 (flips xs e a b (q / e) (2 * s + 1)) (d.i / e) b l _ r91 hn hs3 (fun c hc => (flips_lines HCH2.out (2 * s + 1) c hc).1)).mono ?_); rintro r wn1 ⟨rn1, rfl, HRN1, bn1⟩; have Sn1 : ShAt wn1 w.heap.size o e M := ShAt.below Sx1.drew bn1; obtain ⟨s0', s1', s2', -⟩ := Sn1.cells; have kn : wn1.cell? ⟨g1, l * 3, none⟩ = some (.int .i64 d.i) := (bn1.cell (p := ⟨g1, l * 3, none⟩) (by show g1 < W1.heap.size; exact (OwnM.lt hown1 rfl).2)).trans k0))
              clear q9 e0 s0 s1 s2 s0' s1' s2' k0 k1 k2 kn hl0 hl1
              have Bn1 := bstep Bx1.drew bn1
              have On1 := OwnM.below (ownm_drew hown1) bn1 (Nat.le_refl _)
              have hrn : rn1 = atI xs e a b (q / e) (2 * s + 1) := found_from HCH2.out HCH0.out HD1.out HRN1.out
              have HRX1 := Lib.hid hrn; clear hrn HRN1
              rw [HRX1.out]
              cases hch : chainJ xs e a b (q / e) (2 * s + 1) with
              | none =>
                rw [atI_none hch]
                have HNN := Lib.hid hch; clear hch
                go_wp2_with (at_builtin; refine wpList_appM _ rfl (.tmp 114) (.tmp 119) _ rfl clv_len (by omega) w.heap.size 36 (.agg #[.int .i64 0, .int .i64 0, .int .i64 0]) 24 Try.underlying25 info_call rfl _ n c3 _ rfl (OwnM.alloc (OwnM.mono On1 hb2) _) _ 1 1 [⟨i, q, a⟩] rfl (rdc_one wn1 ⟨i, q, a⟩) clv_one (by unfold maxLen; omega) (by omega) (by simp; have := (Bn1).size; omega) ?_; intro Az cz wz Oz Gz Lz)
                have Bz := bgrown (bbox (Bn1) (Bn1).size _) Gz (by simp; have := (Bn1).size; omega) (fun g hg => by have := (OwnM.lt On1 hg).1; omega)
                go_ret2
                exact RetCB.mk _ (HEND.out (2 * s + 1) HNN.out) Oz Bz
              | some l2 =>
                rw [atI_some hch]
                have HCH1 := Lib.hid hch; clear hch
                obtain ⟨d2, HD2, HF2, HVI2⟩ : ∃ d, Hid (xs[l2]? = some d) ∧ Hid ((flips xs e a b (q / e) (2 * s + 1))[l2]? = some d) ∧ Hid (d.v = viaJ a b (2 * s + 1)) := flips_here HCH2.out HCH1.out
                have hln2 : l2 < n := by have h1 := (List.getElem?_eq_some_iff.1 HD2.out).1; rw [HL.out] at h1; exact h1
                obtain ⟨hdi2, hdo2⟩ := flips_lines HCH2.out (2 * s + 1) d2 (List.mem_of_getElem? HF2.out)
                obtain ⟨hdi2, hdi2'⟩ := hdi2
                obtain ⟨hdo2, hdo2'⟩ := hdo2
                have HQ20 := Lib.hid (IntWalk.i64_quo d2.o e ⟨by omega, by omega, hs3⟩)
                obtain ⟨g2, y2, hA2, hgB2, hgl2, HY2, kc0, kc1, kc2, kf⟩ := OwnC.at On1 hln2
                obtain rfl : d2 = y2 := by have h1 := HF2.out; rw [HY2.out] at h1; injection h1 with h1; exact h1.symm
                injection hA2 with hA2; injection hA2 with hA2; subst hA2
                have kf2 := kf (l2 * 3 + 2)
                have HKF := Lib.hid kf; clear kf
                have hown2 : OwnC (wn1.setCell ⟨g1, l2 * 3 + 2, none⟩ (.int .i64 a)) w2.heap.size 36 (some ⟨g1, 0, none⟩) n c3 (flips xs e a b (q / e) (2 * s + 2)) := by
                  have h1 := OwnM.set1 clv_len (j := 2) (y' := ⟨d2.i, d2.o, a⟩) (u := .int .i64 a) On1 HF2.out (by omega) rfl
                  have h2 := flips_set HCH2.out HCH1.out HF2.out HVI2.out
                  rw [show viaJ a b (2 * s + 1 + 1) = a by unfold viaJ; rw [if_pos (by omega)]] at h2
                  rwa [h2] at h1
                obtain ⟨s0, s1, s2, -⟩ := Sn1.cells
                go_wp2
                obtain ⟨W2, HW2⟩ : ∃ W2, Hid (W2 = wn1.setCell ⟨g1, l2 * 3 + 2, none⟩ (.int .i64 a)) := ⟨_, rfl⟩
                rw [← HW2.out] at hown2
                have Sx2 : ShAt W2 w.heap.size o e M := by rw [HW2.out]; exact (Below.heap_setCell _ _ _ _ (by show w.heap.size ≠ g1; omega)).trans Sn1
                have Bx2 : Below w.heap.size w W2 := by rw [HW2.out]; exact (Bn1).setCell (by show w.heap.size ≤ g1; omega) _
                rw [← HW2.out]
                clear s0 s1 s2 kc0 kc1 kc2 kf2
                obtain ⟨s0, s1, s2, -⟩ := Sx2.cells
                obtain ⟨g9, y9, hA9, -, -, HY9, k0, k1, k2, -⟩ := OwnC.at hown2 hln2
                injection hA9 with hA9; injection hA9 with hA9; subst hA9
                have hy9 : y9.i = d2.i ∧ y9.o = d2.o := by
                  have h1 := HY9.out
                  have h2 := flips_set HCH2.out HCH1.out HF2.out HVI2.out
                  rw [← h2, List.getElem?_set, if_pos rfl, if_pos (List.getElem?_eq_some_iff.1 HF2.out).1] at h1
                  injection h1 with h1
                  rw [← h1]; exact ⟨rfl, rfl⟩
                rw [hy9.1] at k0
                rw [hy9.2] at k1
                clear hy9
                have q9 := HQ20.out
                have e0 := HE0.out
                have r92 := rdm_drew (OwnC.rd hown2)
                have hl0 : (0 : Int) ≤ (l2 : Int) := Int.natCast_nonneg _
                have hl1 : (l2 : Int) < (n : Int) := by omega
                go_region_held3 (fun w' => w'.cell? ⟨w.heap.size, 0, none⟩ = some (.int .i64 o) ∧ w'.cell? ⟨w.heap.size, 1, none⟩ = some (.int .i64 e) ∧ w'.cell? ⟨w.heap.size, 2, none⟩ = some (.int .i64 M) ∧ w'.cell? ⟨g1, l2 * 3 + 1, none⟩ = some (.int .i64 d2.o))
                  (first | go_keep | exact ⟨by assumption, by assumption, by assumption, by assumption⟩)
                  ((go_at_call 55; (refine (impl_callTo o e M (some ⟨g1, 0, none⟩) n c3 (flips xs e a b (q / e) (2 * s + 2)) (d2.o / e) a l2 _ r92 hn hs3 (fun c hc => (flips_lines HCH2.out (2 * s + 2) c hc).2)).mono ?_); rintro r wn2 ⟨rn2, rfl, HRN2, bn2⟩; have Sn2 : ShAt wn2 w.heap.size o e M := ShAt.below Sx2.drew bn2; obtain ⟨s0', s1', s2', -⟩ := Sn2.cells; have kn : wn2.cell? ⟨g1, l2 * 3 + 1, none⟩ = some (.int .i64 d2.o) := (bn2.cell (p := ⟨g1, l2 * 3 + 1, none⟩) (by show g1 < W2.heap.size; exact (OwnM.lt hown2 rfl).2)).trans k1))
                clear q9 e0 s0 s1 s2 s0' s1' s2' k0 k1 k2 kn hl0 hl1
                have Bn2 := bstep Bx2.drew bn2
                have On2 := OwnM.below (ownm_drew hown2) bn2 (Nat.le_refl _)
                have hrn : rn2 = atI xs e a b (q / e) (2 * s + 2) := found_to HCH2.out HCH1.out HD2.out HRN2.out
                have HRX2 := Lib.hid hrn; clear hrn HRN2
                go_wp2
                go_roundg (n - 2 * (s + 1))
                case rel => exact ⟨s + 1, rfl, by rw [HRX2.out]; rfl, On2, Sn2, Bn2⟩
                case measure => omega
        · have hz2 : decide (0 < n5) = true := by simp; omega
          obtain ⟨g5, v, rfl, hg5, hg5', HV, gc, gf⟩ := O5.at (k := 0) (by omega)
          have hn5 : 0 < n5 := by omega
          go_wp2_with (at_builtin; refine wpList_appM _ rfl (.tmp 41) (.tmp 48) _ rfl clv_len (by omega) w.heap.size 36 (.agg #[.int .i64 0, .int .i64 0, .int .i64 0]) 24 Try.underlying25 info_call rfl A3 n c3 xs rfl (OwnM.alloc (OwnM.mono R5 hb2) _) _ 1 1 [⟨i, q, v⟩] rfl (rdc_one w5 ⟨i, q, v⟩) clv_one (by unfold maxLen; omega) (by omega) (by simp; omega) ?_; intro A6 c6 w6 O6 G6 L6)
          have B6 := bgrown (bbox B5 hb5 _) G6 (by simp; omega) (fun g hg => by have := (OwnM.lt R5 hg).1; omega)
          go_ret2
          exact RetCB.mk _ (move_free HC.out hem HLF.out HV.out) O6 B6
    · have HC := Lib.hid hok; clear hok
      go_enter Try.func14, Try.ntmps14
      go_wp2_with fail
      refine (impl_Enough o e M _).mono ?_
      rintro r w1 ⟨rfl, b1⟩
      rw [HE.out]
      have B1 := bstep B0 b1
      have S1 := S0.below b1
      obtain ⟨s0, s1, s2, -⟩ := S1.cells
      go_wp2_with fail
      refine (impl_CallsValid o e M A n c xs _ (hx.below B1 (Nat.le_refl _)) hc hn).mono ?_
      rintro r w2 ⟨v2, rfl, hv2, b2⟩
      have hvf : v2 = false := by
        cases v2
        · rfl
        · exact absurd (hv2.out.1 rfl) HC.out
      subst hvf
      clear hv2
      go_wp2
      go_ret2
      exact RetCB.mk [] (move_neg (fun h => HC.out h.1)) OwnM.nil (bstep B1 b2)
end Go.Proofs.Ytcickfahpcmcdaa
