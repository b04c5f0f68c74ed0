/- CallMove of the reference. Condition: at most 1048576 calls. -/
import Derived.Test.Ytcickfahpcmcdaa4ms
namespace Go.Proofs.Ytcickfahpcmcdaa
open Go.RowKit
set_option linter.unusedSimpArgs false
set_option linter.unusedVariables false
set_option maxRecDepth 100000 in
set_option maxHeartbeats 8000000 in
theorem spec_CallMove (o e m : Int) (A : Option Addr) (n c : Nat) (xs : List Cl) (i q : Int) (w : World) (hx : RdC w A n xs) (hc : n ≤ c) (hn : n ≤ 1048576) :
    Calls Try.prog 15 #[shv o e m, .slice A n c, .int .i64 i, .int .i64 q] w (RetCB (moveL o e m xs i q) w) := by
  have B0 := below_box w (.cells #[.int .i64 o, .int .i64 e, .int .i64 m] 24)
  have S0 := ShAt.new w o e m
  have HL := hx.len
  by_cases hok : CallsOk o e m xs
  · have hn12 : n ≤ 12 := by rw [← HL.out]; exact callsOk_len hok
    have HC := Lib.hid hok
    obtain ⟨hs1, hs2, hs3, hs4, hs5, hs6⟩ := hok.1
    obtain ⟨hp1, hp2⟩ := prod_bd hok.1
    clear hok
    obtain ⟨M, rfl⟩ : ∃ M : Nat, m = (M : Int) := ⟨m.toNat, by omega⟩
    go_enter Try.func15, Try.ntmps15
    go_wp2_with fail
    refine (spec_CallsValid o e M A n c xs _ (hx.below B0 (Nat.le_refl _)) hc hn).mono ?_
    rintro r w1 ⟨v1, rfl, hv1, b1⟩
    obtain rfl := hv1.out.2 HC.out
    clear hv1
    have B1 := bstep B0 b1
    have S1 := S0.below b1
    obtain ⟨s0, s1, s2, -⟩ := S1.cells
    go_wp2_with fail
    refine (spec_Enough o e M _).mono ?_
    rintro r w2 ⟨rfl, b2⟩
    have B2 := bstep B1 b2
    have S2 := S1.below b2
    have hb2 := B2.size
    clear s0 s1 s2
    cases hen : enoughB o e M with
    | false =>
      have HE := Lib.hid hen; clear hen
      go_wp2
      go_ret2
      exact RetCB.mk [] (move_neg (fun h => by have := enough_ok.2 ⟨h.1.1, h.2⟩; rw [HE.out] at this; cases this)) (OwnM.lit0 w2 hb2) (bbox B2 hb2 _)
    | true =>
      have hem : e ≤ M := (enough_ok.1 hen).2
      clear hen
      have hz2 := S2.lt
      have O2 : OwnC (w2.alloc (.cells #[] 36)) w2.heap.size 36 (some ⟨w2.heap.size, 0, none⟩) 0 0 [] := OwnM.lit0 w2 (Nat.le_refl _)
      have hx2 := (hx.below B2 (Nat.le_refl _)).below (below_box w2 (.cells #[] 36)) (Nat.le_refl _)
      have HWR : Hid (IntKind.i64.wrap (o * e - 1) = o * e - 1) := IntWalk.i64_in _ (by omega)
      have HI2 : Hid (inB i 0 (o * e - 1) = lineB o e i) := by show _ = _; rw [Bool.eq_iff_iff]; simp [inB, lineB]; omega
      have HO2 : Hid (inB q 0 (o * e - 1) = lineB o e q) := by show _ = _; rw [Bool.eq_iff_iff]; simp [inB, lineB]; omega
      go_wp2_with (at_builtin; refine wpList_appMN _ rfl (.tmp 32) (.tmp 33) _ rfl clv_len (by omega) w2.heap.size 36 (.agg #[.int .i64 0, .int .i64 0, .int .i64 0]) 24 Try.underlying25 info_call rfl _ 0 0 [] rfl O2 A n c xs rfl hx2 clv_one n (by omega) xs rfl (by unfold maxLen; omega) (by omega) (by simp) ?_; intro A3 c3 w3 O3 G3 L3; have S3 := (S2.alloc _).grown G3 (by simp [blk]; omega); obtain ⟨s0, s1, s2, -⟩ := S3.cells)
      have B3 : Below w.heap.size w w3 := bgrown (bbox B2 hb2 _) G3 (by simp; omega) (fun g hg => by simp [blk] at hg; omega)
      have hg3s := G3.size
      simp at hg3s
      refine (spec_l4Lines o e M _ (by omega) (by omega)).mono ?_
      rintro r w4 ⟨rfl, b4⟩
      have B4 := bstep B3 b4
      have S4 := S3.below b4
      have O4 := OwnM.below O3 b4 (Nat.le_refl _)
      clear s0 s1 s2
      go_wp2_with fail
      refine (quiet_belowC (l1In_any i 0 (o * e - 1) _)).mono ?_
      rintro r w5 ⟨rfl, b5⟩
      have B5 := bstep B4 b5
      have S5 := S4.below b5
      have O5 := OwnM.below O4 b5 (Nat.le_refl _)
      rw [HI2.out]
      cases hi : lineB o e i with
      | false =>
        have HI := Lib.hid hi; clear hi
        go_wp2
        go_ret2
        exact RetCB.mk xs (move_busy HC.out hem (fun h => by have := lineB_iff.2 h.1; rw [HI.out] at this; cases this)) (OwnM.mono O5 hb2) B5
      | true =>
        have HI := Lib.hid hi; clear hi
        obtain ⟨s0, s1, s2, -⟩ := S5.cells
        go_wp2_with fail
        refine (spec_l4Lines o e M _ (by omega) (by omega)).mono ?_
        rintro r w6 ⟨rfl, b6⟩
        have B6 := bstep B5 b6
        have S6 := S5.below b6
        have O6 := OwnM.below O5 b6 (Nat.le_refl _)
        clear s0 s1 s2
        go_wp2_with fail
        refine (quiet_belowC (l1In_any q 0 (o * e - 1) _)).mono ?_
        rintro r w7 ⟨rfl, b7⟩
        have B7 := bstep B6 b7
        have S7 := S6.below b7
        have O7 := OwnM.below O6 b7 (Nat.le_refl _)
        rw [HO2.out]
        cases hq : lineB o e q with
        | false =>
          have HQ := Lib.hid hq; clear hq
          go_wp2
          go_ret2
          exact RetCB.mk xs (move_busy HC.out hem (fun h => by have := lineB_iff.2 h.2.1; rw [HQ.out] at this; cases this)) (OwnM.mono O7 hb2) B7
        | true =>
          have HQ := Lib.hid hq; clear hq
          go_wp2_with fail
          refine (l4Line_any A n c xs i q _ (hx.below B7 (Nat.le_refl _)) hn).mono ?_
          rintro r w8 ⟨v8, rfl, hv8, m8, hw8⟩
          have b8 : Below w7.heap.size w7 w8 := by rw [hw8]; exact below_drewN (Below.refl _ _) _
          clear hw8
          have B8 := bstep B7 b8
          have S8 := S7.below b8
          have O8 := OwnM.below O7 b8 (Nat.le_refl _)
          cases v8 with
          | true =>
            have HN : Hid (¬ LinesFree o e xs i q) := fun h => by
              obtain ⟨d, hd, h1⟩ := hv8.out.1 rfl
              rcases h1 with h1 | h1
              · exact (h.2.2 d hd).1 h1
              · exact (h.2.2 d hd).2 h1
            clear hv8
            go_wp2
            go_ret2
            exact RetCB.mk xs (move_busy HC.out hem HN.out) (OwnM.mono O8 hb2) B8
          | false =>
            have HLF : Hid (LinesFree o e xs i q) := ⟨lineB_iff.1 HI.out, lineB_iff.1 HQ.out, fun d hd => by
              constructor
              · intro h1; have := hv8.out.2 ⟨d, hd, .inl h1⟩; cases this
              · intro h1; have := hv8.out.2 ⟨d, hd, .inr h1⟩; cases this⟩
            clear hv8
            obtain ⟨s0, s1, s2, -⟩ := S8.cells
            go_wp2_with fail
            refine (spec_MiddleFree o e M A n c xs i q _ (hx.below B8 (Nat.le_refl _)) hc hn).mono ?_
            rintro r w9 ⟨A9, n9, c9, rfl, O9, b9⟩
            have B9 := bstep B8 b9
            have S9 := S8.below b9
            have HL9 := O9.len
            have R9 := OwnM.below O8 b9 (Nat.le_refl _)
            have hb9 := B9.size
            have hgl9 : ∀ g, blk A3 = some g → w2.heap.size ≤ g ∧ g < w9.heap.size := fun g hg => OwnM.lt R9 hg
            have HGL := Lib.hid hgl9; clear hgl9
            have hz9 : w2.heap.size ≤ w9.heap.size := by have := b4.size; have := b5.size; have := b6.size; have := b7.size; have := b8.size; have := b9.size; omega
            clear s0 s1 s2
            by_cases hz : n9 = 0
            · subst hz
              have HF : Hid (freeL o e M xs i q = []) := List.eq_nil_of_length_eq_zero HL9.out
              have HCH := Lib.hid (chn_of HC.out hem HLF.out HF.out)
              have hma := moveA_ok HC.out hem HLF.out
              have hmb := moveB_ok HC.out hem HLF.out
              obtain ⟨⟨hi0, hi1⟩, ⟨hq0, hq1⟩, -⟩ := HLF.out
              have HQ1 := Lib.hid (IntWalk.i64_quo i e ⟨hi0, by omega, hs3⟩)
              have HQ2 := Lib.hid (IntWalk.i64_quo q e ⟨hq0, by omega, hs3⟩)
              have HE0 : Hid (¬ e = 0) := by show ¬ e = 0; omega
              obtain ⟨a, HA⟩ : ∃ a, Hid (a = moveA e M xs i) := ⟨_, rfl⟩
              obtain ⟨b, HB⟩ : ∃ b, Hid (b = moveB e M xs q) := ⟨_, rfl⟩
              have ha : 0 ≤ a ∧ a ≤ 4 := by rw [HA.out]; omega
              have hb : 0 ≤ b ∧ b ≤ 4 := by rw [HB.out]; omega
              have HAB := Lib.hid (And.intro ha hb)
              obtain ⟨ha0, ha1⟩ := ha
              obtain ⟨hb0, hb1⟩ := hb
              clear hma hmb
              have HCH2 : Hid (Chn o e M a b (q / e) xs) := by show Chn o e M a b (q / e) xs; rw [HA.out, HB.out]; exact HCH.out
              have HEND : Hid (∀ t, chainJ xs e a b (q / e) t = none → moveL o e M xs i q = (flips xs e a b (q / e) t ++ [⟨i, q, a⟩], true)) := by
                show ∀ t, _
                rw [HA.out, HB.out]
                exact fun t ht => move_chain HC.out hem HLF.out HF.out ht
              clear HCH
              have HLN : Hid (∀ c ∈ xs, (0 ≤ c.i ∧ c.i ≤ 1000) ∧ (0 ≤ c.o ∧ c.o ≤ 1000)) := flips_lines HCH2.out 0
              obtain ⟨s0, s1, s2, -⟩ := S9.cells
              go_wp2
              have q1 := HQ1.out
              have e0 := HE0.out
              have hx9 := hx.below B9.drew (Nat.le_refl _)
              go_region_held3 (fun w' => w'.cell? ⟨w.heap.size, 0, none⟩ = some (.int .i64 o) ∧ w'.cell? ⟨w.heap.size, 1, none⟩ = some (.int .i64 e) ∧ w'.cell? ⟨w.heap.size, 2, none⟩ = some (.int .i64 M))
                (first | go_keep | exact ⟨by assumption, by assumption, by assumption⟩)
                (first
                  | (go_at_call 61; (refine (l4Used0_any o e M A n c xs (i / e) _ hx9 hn hs3 (fun c hc => (HLN.out c hc).1)).mono ?_); rintro r wa ⟨Aa, na, ca, rfl, Oa, ba⟩; have Sa : ShAt wa w.heap.size o e M := ShAt.below S9.drew ba; obtain ⟨s0', s1', s2', -⟩ := Sa.cells; have hna : na ≤ 1048576 := (by rw [← Oa.len.out]; have := viaFrom_len e xs (i / e) n; rw [List.take_of_length_le (by rw [HL.out]; exact Nat.le_refl _)] at this; omega))
                  | (go_at_call 60; (refine (l4First_any o e M Aa na ca _ (usedFrom e xs (i / e)) _ Oa.rd hna (by omega) (viaFrom_mem e xs (i / e))).mono ?_); rintro r wb ⟨rfl, bb⟩; have Sb : ShAt wb w.heap.size o e M := ShAt.below Sa bb; obtain ⟨s0', s1', s2', -⟩ := Sb.cells))
              clear q1 e0 s0 s1 s2 s0' s1' s2'
              have Bb := bstep (bstep B9.drew ba) bb
              have Rb := OwnM.below (OwnM.below (ownm_drew R9) ba (Nat.le_refl _)) bb (Nat.le_refl _)
              have hzb : w9.heap.size ≤ wb.heap.size := by have h1 := ba.size; have h2 := bb.size; simp at h1; omega
              rw [show firstV M (usedFrom e xs (i / e)) = a from HA.out.symm]
              obtain ⟨s0, s1, s2, -⟩ := Sb.cells
              go_wp2
              have q2 := HQ2.out
              have e0 := HE0.out
              have hxb := hx.below Bb.drew (Nat.le_refl _)
              go_region_held3 (fun w' => w'.cell? ⟨w.heap.size, 0, none⟩ = some (.int .i64 o) ∧ w'.cell? ⟨w.heap.size, 1, none⟩ = some (.int .i64 e) ∧ w'.cell? ⟨w.heap.size, 2, none⟩ = some (.int .i64 M))
                (first | go_keep | exact ⟨by assumption, by assumption, by assumption⟩)
                (first
                  | (go_at_call 61; (refine (l4Used1_any o e M A n c xs (q / e) _ hxb hn hs3 (fun c hc => (HLN.out c hc).2)).mono ?_); rintro r wc ⟨Ac, nc, cc, rfl, Oc, bc⟩; have Sc : ShAt wc w.heap.size o e M := ShAt.below Sb.drew bc; obtain ⟨s0', s1', s2', -⟩ := Sc.cells; have hnc : nc ≤ 1048576 := (by rw [← Oc.len.out]; have := viaTo_len e xs (q / e) n; rw [List.take_of_length_le (by rw [HL.out]; exact Nat.le_refl _)] at this; omega))
                  | (go_at_call 60; (refine (l4First_any o e M Ac nc cc _ (usedTo e xs (q / e)) _ Oc.rd hnc (by omega) (viaTo_mem e xs (q / e))).mono ?_); rintro r wd ⟨rfl, bd⟩; have Sd : ShAt wd w.heap.size o e M := ShAt.below Sc bd; obtain ⟨s0', s1', s2', -⟩ := Sd.cells))
              clear q2 e0 s0 s1 s2 s0' s1' s2'
              have Bd := bstep (bstep Bb.drew bc) bd
              have Rd := OwnM.below (OwnM.below (ownm_drew Rb) bc (Nat.le_refl _)) bd (Nat.le_refl _)
              have hzd : w9.heap.size ≤ wd.heap.size := by have h1 := bc.size; have h2 := bd.size; simp at h1; omega
              rw [show firstV M (usedTo e xs (q / e)) = b from HB.out.symm]
              obtain ⟨s0, s1, s2, -⟩ := Sd.cells
              have hzS := Sd.lt
              have OEd : OwnL iv (wd.alloc (.cells #[] 3)) wd.heap.size 3 (some ⟨wd.heap.size, 0, none⟩) 0 0 [] := OwnL.lit wd [] (by simp) (Nat.le_refl _)
              go_wp2
              clear s0 s1 s2
              go_loopg [14, 15, 16, 17] (n + 1) (fun g s14 s15 s16 s17 wr => ∃ (t cc : Nat) (A' : Option Addr) (x sd vt : Int), t ≤ n ∧ g = n + 1 - t ∧ s14 = .slice A' t cc ∧ s15 = .int .i64 sd ∧ s16 = .int .i64 x ∧ s17 = .int .i64 vt ∧ Hid (vt = viaJ a b t) ∧ Hid (sd = if t % 2 = 0 then 1 else 0) ∧ Hid (nodeJ xs e a b (q / e) t = some x) ∧ OwnL iv wr wd.heap.size 3 A' t cc (chainL xs e a b (q / e) t) ∧ OwnC wr w2.heap.size 36 A3 n c3 xs ∧ ShAt wr w.heap.size o e M ∧ Below w.heap.size w wr ∧ wd.heap.size ≤ wr.heap.size)
              case atStart => exact ⟨0, 0, _, q / e, 1, a, Nat.zero_le _, rfl, rfl, rfl, rfl, rfl, rfl, rfl, rfl, OEd, OwnM.alloc Rd _, Sd.alloc _, bbox Bd Bd.size _, by simp⟩
              case round =>
                obtain ⟨t, cc, A', x, sd, vt, ht, rfl, rfl, rfl, rfl, rfl, HVT, HSD, HNODE, OW, RW, SW, BW, hsz⟩ := hrel
                obtain ⟨wo, rfl⟩ : ∃ wo : World, wo = wr := ⟨_, rfl⟩
                rcases (by omega : t % 2 = 0 ∨ t % 2 = 1) with hpar | hpar
                · obtain rfl : sd = 1 := by rw [HSD.out]; rw [if_pos hpar]
                  have HINN : Hid (∀ d : Cl, innJ e t d = d.o / e) := fun d => by unfold innJ; rw [if_pos hpar]
                  have HOUT : Hid (∀ d : Cl, outJ e t d = d.i / e) := fun d => by unfold outJ; rw [if_pos hpar]
                  obtain ⟨s0, s1, s2, -⟩ := SW.cells
                  go_wp2
                  go_loopg [18, 19] n (fun g s18 s19 wi => ∃ (k m : Nat) (r18 : Int), k ≤ n ∧ g = n - k ∧ s19 = .int .i64 k ∧ s18 = .int .i64 r18 ∧ Hid (r18 = foundI xs e a b (q / e) t k) ∧ wi = wo.drewN m)
                  case atStart => exact ⟨0, 0, -1, Nat.zero_le _, rfl, rfl, rfl, (foundI_zero t).symm, rfl⟩
                  case round =>
                    obtain ⟨k, m, r18, hk, rfl, rfl, rfl, HR18, rfl⟩ := hrel
                    by_cases hlt : k < n
                    · obtain ⟨gy, offy, y, hAy, HY, g0l, g1l, g2l⟩ := RdC.at (OwnC.rd RW) hlt
                      subst hAy
                      obtain ⟨⟨hyi0, hyi1⟩, ⟨hyo0, hyo1⟩⟩ := HLN.out y (List.mem_of_getElem? HY.out)
                      have HQY := Lib.hid (IntWalk.i64_quo y.o e ⟨by omega, by omega, hs3⟩)
                      have hk0 : (0 : Int) ≤ (k : Int) := Int.natCast_nonneg _
                      have hk1 : (k : Int) < (n : Int) := by omega
                      by_cases hin : y.o / e = x
                      · have hz : (y.o / e == x) = true := by simpa using hin
                        by_cases hv : y.v = vt
                        · have hzv : (y.v == vt) = true := by simpa using hv
                          have HIT : Hid (chainJ xs e a b (q / e) t = some k) := (hit_iff HCH2.out HNODE.out HY.out).2 ⟨by rw [HINN.out]; exact hin, by rw [← HVT.out]; exact hv⟩
                          clear hin hv
                          go_wp2
                          have q1 := HQY.out
                          have e0 := HE0.out
                          go_quiet (fail)
                          clear q1 e0
                          go_wp2_with fail
                          refine (l1Has_any A' t cc _ k _ (OW.rd.drewN _) (by omega)).mono ?_
                          rintro r wh ⟨rfl, mh, rfl⟩
                          rw [decide_eq_false (not_in_chain HCH2.out HIT.out)]
                          go_wp2
                          go_roundg (n - (k + 1))
                          case rel => exact ⟨k + 1, m + (nq + mh), k, by omega, rfl, by go_num, rfl, (foundI_hit HIT.out).symm, by simp [Nat.add_assoc]⟩
                          case measure => omega
                        · have hzv : (y.v == vt) = false := by simpa using hv
                          have HMISS : Hid (chainJ xs e a b (q / e) t ≠ some k) := fun h => hv (by rw [HVT.out]; exact ((hit_iff HCH2.out HNODE.out HY.out).1 h).2)
                          clear hin hv
                          go_wp2
                          have q1 := HQY.out
                          have e0 := HE0.out
                          go_quiet (fail)
                          clear q1 e0
                          go_wp2
                          go_roundg (n - (k + 1))
                          case rel => exact ⟨k + 1, m + nq, r18, by omega, rfl, by go_num, rfl, by show _ = _; rw [foundI_miss HMISS.out]; exact HR18.out, by simp⟩
                          case measure => omega
                      · have hz : (y.o / e == x) = false := by simpa using hin
                        have HMISS : Hid (chainJ xs e a b (q / e) t ≠ some k) := fun h => hin (by rw [← HINN.out]; exact ((hit_iff HCH2.out HNODE.out HY.out).1 h).1)
                        clear hin
                        go_wp2
                        have q1 := HQY.out
                        have e0 := HE0.out
                        go_quiet (fail)
                        clear q1 e0
                        go_wp2
                        go_roundg (n - (k + 1))
                        case rel => exact ⟨k + 1, m + nq, r18, by omega, rfl, by go_num, rfl, by show _ = _; rw [foundI_miss HMISS.out]; exact HR18.out, by simp⟩
                        case measure => omega
                    · obtain rfl : n = k := by omega
                      have hr18 : r18 = atI xs e a b (q / e) t := HR18.out.trans (foundI_all HCH2.out (by rw [HL.out]; exact Nat.le_refl _))
                      clear HR18
                      have HR18 := Lib.hid hr18; clear hr18
                      cases hch : chainJ xs e a b (q / e) t with
                      | none =>
                        have HNONE := Lib.hid hch; clear hch
                        rw [HR18.out, atI_none HNONE.out]
                        go_wp2
                        go_loopg [21] t (fun g s21 wz => ∃ k : Nat, k ≤ t ∧ g = t - k ∧ s21 = .int .i64 k ∧ OwnC wz w2.heap.size 36 A3 n c3 (flips xs e a b (q / e) k) ∧ OwnL iv wz wd.heap.size 3 A' t cc (chainL xs e a b (q / e) t) ∧ Below w.heap.size w wz ∧ wd.heap.size ≤ wz.heap.size)
                        case atStart => exact ⟨0, Nat.zero_le _, rfl, rfl, OwnM.drewN RW m, OW.drewN m, below_drewN BW m, hsz⟩
                        case round =>
                          obtain ⟨k3, hk3, rfl, rfl, R3, O3c, B3c, hsz3⟩ := hrel
                          by_cases hlt3 : k3 < t
                          · obtain ⟨l, HCK⟩ : ∃ l, Hid (chainJ xs e a b (q / e) k3 = some l) := chain_before HCH2.out HNODE.out hlt3
                            obtain ⟨d, HD, HFD, HVD⟩ : ∃ d, Hid (xs[l]? = some d) ∧ Hid ((flips xs e a b (q / e) k3)[l]? = some d) ∧ Hid (d.v = viaJ a b k3) := flips_here HCH2.out HCK.out
                            have hln : l < n := by have h1 := (List.getElem?_eq_some_iff.1 HD.out).1; rw [HL.out] at h1; exact h1
                            obtain ⟨gc, yc, hAc, hgBc, hglc, HYC, kc, kfc⟩ := O3c.at hlt3
                            have hyc : yc = (l : Int) := by have h1 := HYC.out; rw [chainL_at _ _ _ _ _ hlt3, atI_some HCK.out] at h1; injection h1 with h1; exact h1.symm
                            subst hyc
                            obtain ⟨gl, yl, hAl, hgBl, hgll, HYL, kl0, kl1, kl2, klf⟩ := OwnC.at R3 hln
                            obtain rfl : d = yl := by have h1 := HFD.out; rw [HYL.out] at h1; injection h1 with h1; exact h1.symm
                            have hdv : 0 ≤ d.v ∧ d.v ≤ 4 := by rw [HVD.out]; exact flips_via HCH2.out HAB.out.1 HAB.out.2 k3
                            obtain ⟨hdv0, hdv1⟩ := hdv
                            subst hAl
                            subst hAc
                            have kf2 := klf (l * 3 + 2)
                            have HKLF := Lib.hid klf; clear klf
                            have hwn : OwnC (wr.setCell ⟨gl, l * 3 + 2, none⟩ (.int .i64 (a + b - d.v))) w2.heap.size 36 (some ⟨gl, 0, none⟩) n c3 (flips xs e a b (q / e) (k3 + 1)) := by
                              have h1 := OwnM.set1 clv_len (j := 2) (y' := ⟨d.i, d.o, a + b - d.v⟩) (u := .int .i64 (a + b - d.v)) R3 HFD.out (by omega) rfl
                              have h2 := flips_set HCH2.out HCK.out HFD.out HVD.out
                              rw [via_succ, ← HVD.out] at h2
                              rwa [h2] at h1
                            have hgne : gl ≠ gc := by have h1 := (HGL.out gl rfl).2; omega
                            have OWn := OwnL.far O3c ⟨gl, l * 3 + 2, none⟩ (.int .i64 (a + b - d.v)) (by simp [blk]; omega)
                            have BWn : Below w.heap.size w (wr.setCell ⟨gl, l * 3 + 2, none⟩ (.int .i64 (a + b - d.v))) := B3c.setCell (by show w.heap.size ≤ gl; omega) _
                            have HW1 : Hid (IntKind.i64.wrap (a + b) = a + b) := IntWalk.i64_in _ (by omega)
                            have HW2 : Hid (IntKind.i64.wrap (a + b - d.v) = a + b - d.v) := IntWalk.i64_in _ (by omega)
                            have hk30 : (0 : Int) ≤ (k3 : Int) := Int.natCast_nonneg _
                            have hk31 : (k3 : Int) < (t : Int) := by omega
                            have hl30 : (0 : Int) ≤ (l : Int) := Int.natCast_nonneg _
                            have hl31 : (l : Int) < (n : Int) := by omega
                            go_wp2
                            have hw1 := HW1.out
                            have hw2 := HW2.out
                            go_region
                            all_goals
                              clear hw1 hw2
                              go_wp2
                              go_roundg (t - (k3 + 1))
                              case rel => exact ⟨k3 + 1, by omega, rfl, by go_num, hwn, OWn, (by first | exact BWn | exact BWn.drew), by simpa [World.setCell] using hsz3⟩
                              case measure => omega
                          · obtain rfl : t = k3 := by omega
                            go_wp2_with (at_builtin; refine wpList_appM _ rfl (.tmp 206) (.tmp 211) _ rfl clv_len (by omega) w.heap.size 36 (.agg #[.int .i64 0, .int .i64 0, .int .i64 0]) 24 Try.underlying25 info_call rfl A3 n c3 _ rfl (OwnM.alloc (OwnM.mono R3 hb2) _) _ 1 1 [⟨i, q, a⟩] rfl (rdc_one wr ⟨i, q, a⟩) clv_one (by unfold maxLen; omega) (by omega) (by simp; have := B3c.size; omega) ?_; intro Az cz wz Oz Gz Lz)
                            have Bz := bgrown (bbox B3c B3c.size _) Gz (by simp; have := B3c.size; omega) (fun g hg => by have := (HGL.out g hg).1; omega)
                            go_ret2
                            exact RetCB.mk _ (HEND.out t HNONE.out) Oz Bz
                      | some l =>
                        have hlt2 : t < n := by rw [← HL.out]; exact chain_lt HCH2.out hch
                        have HCK := Lib.hid hch; clear hch
                        rw [HR18.out, atI_some HCK.out]
                        obtain ⟨d, HD, -, -⟩ : ∃ d, Hid (xs[l]? = some d) ∧ Hid ((flips xs e a b (q / e) t)[l]? = some d) ∧ Hid (d.v = viaJ a b t) := flips_here HCH2.out HCK.out
                        have hln : l < n := by have h1 := (List.getElem?_eq_some_iff.1 HD.out).1; rw [HL.out] at h1; exact h1
                        obtain ⟨⟨hdi0, hdi1⟩, ⟨hdo0, hdo1⟩⟩ := HLN.out d (List.mem_of_getElem? HD.out)
                        have HQD := Lib.hid (IntWalk.i64_quo d.i e ⟨by omega, by omega, hs3⟩)
                        have hown2 := OwnL.drewN (OW.alloc (.cells #[.int .i64 (l : Int)] 3)) m
                        go_wp2_with (at_builtin; refine wpList_appL _ rfl (.tmp 152) (.tmp 154) _ rfl wd.heap.size 3 (.int .i64 0) 8 Try.underlying38 info_int rfl A' t cc _ rfl hown2 _ 1 1 [(l : Int)] rfl (RdL.drewN (RdL.one wo _ (l : Int)) m) (fun _ => rfl) (by unfold maxLen; omega) (by omega) (by simp; omega) ?_; intro A5 c5 w5 O5e G5 L5; have hgs5 := G5.size; simp at hgs5; have S5w : ShAt w5 w.heap.size o e M := ShAt.grown ((SW.alloc _).drewN m) G5 (fun hh => by have h1 := (OW.lt hh.symm).1; omega); have R5w : OwnC w5 w2.heap.size 36 A3 n c3 xs := OwnM.grown (OwnM.drewN (OwnM.alloc RW _) m) G5 (fun g hg hb => by have h1 := (OW.lt hg).1; have h2 := (HGL.out g hb).2; omega); clear s0 s1 s2; obtain ⟨s0, s1, s2, -⟩ := S5w.cells; obtain ⟨gd, yd, hAd, -, -, HYD, kd0, kd1, kd2, -⟩ := OwnC.at R5w hln; subst hAd; obtain rfl : d = yd := (by have h1 := HD.out; rw [HYD.out] at h1; injection h1 with h1; exact h1.symm); have hl30 : (0 : Int) ≤ (l : Int) := Int.natCast_nonneg _; have hl31 : (l : Int) < (n : Int) := (by omega))
                        have B5 : Below w.heap.size w w5 := bgrown (below_drewN (bbox BW BW.size (.cells #[.int .i64 (l : Int)] 3)) m) G5 (by simp; have := BW.size; omega) (fun g hg => by have h1 := (OW.lt hg).1; omega)
                        have q1 := HQD.out
                        have e0 := HE0.out
                        go_quiet (fail)
                        clear q1 e0 s0 s1 s2 kd0 kd1 kd2
                        have hvt : 0 ≤ vt ∧ vt ≤ 4 := by rw [HVT.out]; exact flips_via HCH2.out HAB.out.1 HAB.out.2 t
                        obtain ⟨hvt0, hvt1⟩ := hvt
                        go_wp2
                        go_roundg (n + 1 - (t + 1))
                        case rel => exact ⟨t + 1, c5, A5, d.i / e, 0, a + b - vt, by omega, rfl, rfl, rfl, rfl, rfl, by show _ = _; rw [via_succ, HVT.out], (by show _ = _; rw [if_neg (by omega)]), (by show _ = _; rw [node_next HCH2.out HCK.out HD.out, HOUT.out]), by rw [chainL_succ, atI_some HCK.out]; exact OwnL.drewN O5e nq, OwnM.drewN R5w nq, S5w.drewN nq, below_drewN B5 nq, by simp; omega⟩
                        case measure => omega
                · obtain rfl : sd = 0 := by rw [HSD.out]; rw [if_neg (by omega)]
                  have HINN : Hid (∀ d : Cl, innJ e t d = d.i / e) := fun d => by unfold innJ; rw [if_neg (by omega)]
                  have HOUT : Hid (∀ d : Cl, outJ e t d = d.o / e) := fun d => by unfold outJ; rw [if_neg (by omega)]
                  obtain ⟨s0, s1, s2, -⟩ := SW.cells
                  go_wp2
                  go_loopg [18, 19] n (fun g s18 s19 wi => ∃ (k m : Nat) (r18 : Int), k ≤ n ∧ g = n - k ∧ s19 = .int .i64 k ∧ s18 = .int .i64 r18 ∧ Hid (r18 = foundI xs e a b (q / e) t k) ∧ wi = wo.drewN m)
                  case atStart => exact ⟨0, 0, -1, Nat.zero_le _, rfl, rfl, rfl, (foundI_zero t).symm, rfl⟩
                  case round =>
                    obtain ⟨k, m, r18, hk, rfl, rfl, rfl, HR18, rfl⟩ := hrel
                    by_cases hlt : k < n
                    · obtain ⟨gy, offy, y, hAy, HY, g0l, g1l, g2l⟩ := RdC.at (OwnC.rd RW) hlt
                      subst hAy
                      obtain ⟨⟨hyi0, hyi1⟩, ⟨hyo0, hyo1⟩⟩ := HLN.out y (List.mem_of_getElem? HY.out)
                      have HQY := Lib.hid (IntWalk.i64_quo y.i e ⟨by omega, by omega, hs3⟩)
                      have hk0 : (0 : Int) ≤ (k : Int) := Int.natCast_nonneg _
                      have hk1 : (k : Int) < (n : Int) := by omega
                      by_cases hin : y.i / e = x
                      · have hz : (y.i / e == x) = true := by simpa using hin
                        by_cases hv : y.v = vt
                        · have hzv : (y.v == vt) = true := by simpa using hv
                          have HIT : Hid (chainJ xs e a b (q / e) t = some k) := (hit_iff HCH2.out HNODE.out HY.out).2 ⟨by rw [HINN.out]; exact hin, by rw [← HVT.out]; exact hv⟩
                          clear hin hv
                          go_wp2
                          have q1 := HQY.out
                          have e0 := HE0.out
                          go_quiet (fail)
                          clear q1 e0
                          go_wp2_with fail
                          refine (l1Has_any A' t cc _ k _ (OW.rd.drewN _) (by omega)).mono ?_
                          rintro r wh ⟨rfl, mh, rfl⟩
                          rw [decide_eq_false (not_in_chain HCH2.out HIT.out)]
                          go_wp2
                          go_roundg (n - (k + 1))
                          case rel => exact ⟨k + 1, m + (nq + mh), k, by omega, rfl, by go_num, rfl, (foundI_hit HIT.out).symm, by simp [Nat.add_assoc]⟩
                          case measure => omega
                        · have hzv : (y.v == vt) = false := by simpa using hv
                          have HMISS : Hid (chainJ xs e a b (q / e) t ≠ some k) := fun h => hv (by rw [HVT.out]; exact ((hit_iff HCH2.out HNODE.out HY.out).1 h).2)
                          clear hin hv
                          go_wp2
                          have q1 := HQY.out
                          have e0 := HE0.out
                          go_quiet (fail)
                          clear q1 e0
                          go_wp2
                          go_roundg (n - (k + 1))
                          case rel => exact ⟨k + 1, m + nq, r18, by omega, rfl, by go_num, rfl, by show _ = _; rw [foundI_miss HMISS.out]; exact HR18.out, by simp⟩
                          case measure => omega
                      · have hz : (y.i / e == x) = false := by simpa using hin
                        have HMISS : Hid (chainJ xs e a b (q / e) t ≠ some k) := fun h => hin (by rw [← HINN.out]; exact ((hit_iff HCH2.out HNODE.out HY.out).1 h).1)
                        clear hin
                        go_wp2
                        have q1 := HQY.out
                        have e0 := HE0.out
                        go_quiet (fail)
                        clear q1 e0
                        go_wp2
                        go_roundg (n - (k + 1))
                        case rel => exact ⟨k + 1, m + nq, r18, by omega, rfl, by go_num, rfl, by show _ = _; rw [foundI_miss HMISS.out]; exact HR18.out, by simp⟩
                        case measure => omega
                    · obtain rfl : n = k := by omega
                      have hr18 : r18 = atI xs e a b (q / e) t := HR18.out.trans (foundI_all HCH2.out (by rw [HL.out]; exact Nat.le_refl _))
                      clear HR18
                      have HR18 := Lib.hid hr18; clear hr18
                      cases hch : chainJ xs e a b (q / e) t with
                      | none =>
                        have HNONE := Lib.hid hch; clear hch
                        rw [HR18.out, atI_none HNONE.out]
                        go_wp2
                        go_loopg [21] t (fun g s21 wz => ∃ k : Nat, k ≤ t ∧ g = t - k ∧ s21 = .int .i64 k ∧ OwnC wz w2.heap.size 36 A3 n c3 (flips xs e a b (q / e) k) ∧ OwnL iv wz wd.heap.size 3 A' t cc (chainL xs e a b (q / e) t) ∧ Below w.heap.size w wz ∧ wd.heap.size ≤ wz.heap.size)
                        case atStart => exact ⟨0, Nat.zero_le _, rfl, rfl, OwnM.drewN RW m, OW.drewN m, below_drewN BW m, hsz⟩
                        case round =>
                          obtain ⟨k3, hk3, rfl, rfl, R3, O3c, B3c, hsz3⟩ := hrel
                          by_cases hlt3 : k3 < t
                          · obtain ⟨l, HCK⟩ : ∃ l, Hid (chainJ xs e a b (q / e) k3 = some l) := chain_before HCH2.out HNODE.out hlt3
                            obtain ⟨d, HD, HFD, HVD⟩ : ∃ d, Hid (xs[l]? = some d) ∧ Hid ((flips xs e a b (q / e) k3)[l]? = some d) ∧ Hid (d.v = viaJ a b k3) := flips_here HCH2.out HCK.out
                            have hln : l < n := by have h1 := (List.getElem?_eq_some_iff.1 HD.out).1; rw [HL.out] at h1; exact h1
                            obtain ⟨gc, yc, hAc, hgBc, hglc, HYC, kc, kfc⟩ := O3c.at hlt3
                            have hyc : yc = (l : Int) := by have h1 := HYC.out; rw [chainL_at _ _ _ _ _ hlt3, atI_some HCK.out] at h1; injection h1 with h1; exact h1.symm
                            subst hyc
                            obtain ⟨gl, yl, hAl, hgBl, hgll, HYL, kl0, kl1, kl2, klf⟩ := OwnC.at R3 hln
                            obtain rfl : d = yl := by have h1 := HFD.out; rw [HYL.out] at h1; injection h1 with h1; exact h1.symm
                            have hdv : 0 ≤ d.v ∧ d.v ≤ 4 := by rw [HVD.out]; exact flips_via HCH2.out HAB.out.1 HAB.out.2 k3
                            obtain ⟨hdv0, hdv1⟩ := hdv
                            subst hAl
                            subst hAc
                            have kf2 := klf (l * 3 + 2)
                            have HKLF := Lib.hid klf; clear klf
                            have hwn : OwnC (wr.setCell ⟨gl, l * 3 + 2, none⟩ (.int .i64 (a + b - d.v))) w2.heap.size 36 (some ⟨gl, 0, none⟩) n c3 (flips xs e a b (q / e) (k3 + 1)) := by
                              have h1 := OwnM.set1 clv_len (j := 2) (y' := ⟨d.i, d.o, a + b - d.v⟩) (u := .int .i64 (a + b - d.v)) R3 HFD.out (by omega) rfl
                              have h2 := flips_set HCH2.out HCK.out HFD.out HVD.out
                              rw [via_succ, ← HVD.out] at h2
                              rwa [h2] at h1
                            have hgne : gl ≠ gc := by have h1 := (HGL.out gl rfl).2; omega
                            have OWn := OwnL.far O3c ⟨gl, l * 3 + 2, none⟩ (.int .i64 (a + b - d.v)) (by simp [blk]; omega)
                            have BWn : Below w.heap.size w (wr.setCell ⟨gl, l * 3 + 2, none⟩ (.int .i64 (a + b - d.v))) := B3c.setCell (by show w.heap.size ≤ gl; omega) _
                            have HW1 : Hid (IntKind.i64.wrap (a + b) = a + b) := IntWalk.i64_in _ (by omega)
                            have HW2 : Hid (IntKind.i64.wrap (a + b - d.v) = a + b - d.v) := IntWalk.i64_in _ (by omega)
                            have hk30 : (0 : Int) ≤ (k3 : Int) := Int.natCast_nonneg _
                            have hk31 : (k3 : Int) < (t : Int) := by omega
                            have hl30 : (0 : Int) ≤ (l : Int) := Int.natCast_nonneg _
                            have hl31 : (l : Int) < (n : Int) := by omega
                            go_wp2
                            have hw1 := HW1.out
                            have hw2 := HW2.out
                            go_region
                            all_goals
                              clear hw1 hw2
                              go_wp2
                              go_roundg (t - (k3 + 1))
                              case rel => exact ⟨k3 + 1, by omega, rfl, by go_num, hwn, OWn, (by first | exact BWn | exact BWn.drew), by simpa [World.setCell] using hsz3⟩
                              case measure => omega
                          · obtain rfl : t = k3 := by omega
                            go_wp2_with (at_builtin; refine wpList_appM _ rfl (.tmp 206) (.tmp 211) _ rfl clv_len (by omega) w.heap.size 36 (.agg #[.int .i64 0, .int .i64 0, .int .i64 0]) 24 Try.underlying25 info_call rfl A3 n c3 _ rfl (OwnM.alloc (OwnM.mono R3 hb2) _) _ 1 1 [⟨i, q, a⟩] rfl (rdc_one wr ⟨i, q, a⟩) clv_one (by unfold maxLen; omega) (by omega) (by simp; have := B3c.size; omega) ?_; intro Az cz wz Oz Gz Lz)
                            have Bz := bgrown (bbox B3c B3c.size _) Gz (by simp; have := B3c.size; omega) (fun g hg => by have := (HGL.out g hg).1; omega)
                            go_ret2
                            exact RetCB.mk _ (HEND.out t HNONE.out) Oz Bz
                      | some l =>
                        have hlt2 : t < n := by rw [← HL.out]; exact chain_lt HCH2.out hch
                        have HCK := Lib.hid hch; clear hch
                        rw [HR18.out, atI_some HCK.out]
                        obtain ⟨d, HD, -, -⟩ : ∃ d, Hid (xs[l]? = some d) ∧ Hid ((flips xs e a b (q / e) t)[l]? = some d) ∧ Hid (d.v = viaJ a b t) := flips_here HCH2.out HCK.out
                        have hln : l < n := by have h1 := (List.getElem?_eq_some_iff.1 HD.out).1; rw [HL.out] at h1; exact h1
                        obtain ⟨⟨hdi0, hdi1⟩, ⟨hdo0, hdo1⟩⟩ := HLN.out d (List.mem_of_getElem? HD.out)
                        have HQD := Lib.hid (IntWalk.i64_quo d.o e ⟨by omega, by omega, hs3⟩)
                        have hown2 := OwnL.drewN (OW.alloc (.cells #[.int .i64 (l : Int)] 3)) m
                        go_wp2_with (at_builtin; refine wpList_appL _ rfl (.tmp 152) (.tmp 154) _ rfl wd.heap.size 3 (.int .i64 0) 8 Try.underlying38 info_int rfl A' t cc _ rfl hown2 _ 1 1 [(l : Int)] rfl (RdL.drewN (RdL.one wo _ (l : Int)) m) (fun _ => rfl) (by unfold maxLen; omega) (by omega) (by simp; omega) ?_; intro A5 c5 w5 O5e G5 L5; have hgs5 := G5.size; simp at hgs5; have S5w : ShAt w5 w.heap.size o e M := ShAt.grown ((SW.alloc _).drewN m) G5 (fun hh => by have h1 := (OW.lt hh.symm).1; omega); have R5w : OwnC w5 w2.heap.size 36 A3 n c3 xs := OwnM.grown (OwnM.drewN (OwnM.alloc RW _) m) G5 (fun g hg hb => by have h1 := (OW.lt hg).1; have h2 := (HGL.out g hb).2; omega); clear s0 s1 s2; obtain ⟨s0, s1, s2, -⟩ := S5w.cells; obtain ⟨gd, yd, hAd, -, -, HYD, kd0, kd1, kd2, -⟩ := OwnC.at R5w hln; subst hAd; obtain rfl : d = yd := (by have h1 := HD.out; rw [HYD.out] at h1; injection h1 with h1; exact h1.symm); have hl30 : (0 : Int) ≤ (l : Int) := Int.natCast_nonneg _; have hl31 : (l : Int) < (n : Int) := (by omega))
                        have B5 : Below w.heap.size w w5 := bgrown (below_drewN (bbox BW BW.size (.cells #[.int .i64 (l : Int)] 3)) m) G5 (by simp; have := BW.size; omega) (fun g hg => by have h1 := (OW.lt hg).1; omega)
                        have q1 := HQD.out
                        have e0 := HE0.out
                        go_quiet (fail)
                        clear q1 e0 s0 s1 s2 kd0 kd1 kd2
                        have hvt : 0 ≤ vt ∧ vt ≤ 4 := by rw [HVT.out]; exact flips_via HCH2.out HAB.out.1 HAB.out.2 t
                        obtain ⟨hvt0, hvt1⟩ := hvt
                        go_wp2
                        go_roundg (n + 1 - (t + 1))
                        case rel => exact ⟨t + 1, c5, A5, d.o / e, 1, a + b - vt, by omega, rfl, rfl, rfl, rfl, rfl, by show _ = _; rw [via_succ, HVT.out], (by show _ = _; rw [if_pos (by omega)]), (by show _ = _; rw [node_next HCH2.out HCK.out HD.out, HOUT.out]), by rw [chainL_succ, atI_some HCK.out]; exact OwnL.drewN O5e nq, OwnM.drewN R5w nq, S5w.drewN nq, below_drewN B5 nq, by simp; omega⟩
                        case measure => omega
            · have hz2 : decide (0 < n9) = true := by simp; omega
              obtain ⟨g9, v, rfl, hg9, hg9', HV, gc, gf⟩ := O9.at (k := 0) (by omega)
              have hn9 : 0 < n9 := by omega
              go_wp2_with (at_builtin; refine wpList_appM _ rfl (.tmp 64) (.tmp 71) _ rfl clv_len (by omega) w.heap.size 36 (.agg #[.int .i64 0, .int .i64 0, .int .i64 0]) 24 Try.underlying25 info_call rfl A3 n c3 xs rfl (OwnM.alloc (OwnM.mono R9 hb2) _) _ 1 1 [⟨i, q, v⟩] rfl (rdc_one w9 ⟨i, q, v⟩) clv_one (by unfold maxLen; omega) (by omega) (by simp; omega) ?_; intro Az cz wz Oz Gz Lz)
              have Bz := bgrown (bbox B9 hb9 _) Gz (by simp; omega) (fun g hg => by have := (HGL.out g hg).1; omega)
              go_ret2
              exact RetCB.mk _ (move_free HC.out hem HLF.out HV.out) Oz Bz
  · have HC := Lib.hid hok; clear hok
    go_enter Try.func15, Try.ntmps15
    go_wp2_with fail
    refine (spec_CallsValid o e m A n c xs _ (hx.below B0 (Nat.le_refl _)) hc hn).mono ?_
    rintro r w1 ⟨v1, rfl, hv1, b1⟩
    have hvf : v1 = false := by
      cases v1
      · rfl
      · exact absurd (hv1.out.1 rfl) HC.out
    subst hvf
    clear hv1
    have B1 := bstep B0 b1
    go_wp2
    go_ret2
    exact RetCB.mk [] (move_neg (fun h => HC.out h.1)) (OwnM.lit0 w1 B1.size) (bbox B1 B1.size _)
end Go.Proofs.Ytcickfahpcmcdaa
