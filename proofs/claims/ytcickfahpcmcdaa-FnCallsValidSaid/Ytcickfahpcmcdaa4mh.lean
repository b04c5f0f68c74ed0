/- MiddleFree of the reference. Condition: at most 1048576 calls. -/
import Derived.Test.Ytcickfahpcmcdaa4mg
namespace Go.Proofs.Ytcickfahpcmcdaa
open Go.RowKit
set_option linter.unusedSimpArgs false
set_option linter.unusedVariables false
theorem callsOk_len {o e m : Int} {cs : List Cl} (h : CallsOk o e m cs) : cs.length ≤ 12 := by
  have hp := prod_bd h.1
  have := nodup_len_le (n := 12) (nodup_ins h) (fun x hx => by
    obtain ⟨c, hc, rfl⟩ := List.mem_map.1 hx
    have := (h.2.1 c hc).1
    unfold LineOk at this
    omega)
  simpa using this
theorem free_len (o e m : Int) (xs : List Cl) (i q : Int) : ∀ (h : xs.length ≤ 1048576), (freeL o e m xs i q).length ≤ 1048576 := fun h => by
  unfold freeL
  split
  · rename_i hc
    refine Nat.le_trans (List.length_filter_le _ _) ?_
    rw [len_upto]
    have := hc.1
    unfold ShapeOk at this
    omega
  · simp
theorem rdm_drew {w : World} {A : Option Addr} {n : Nat} {ys : List Cl} (h : RdC w A n ys) : RdC w.drew A n ys := h
theorem ownm_drew {w : World} {B : Nat} {e : TypeId} {A : Option Addr} {n c : Nat} {ys : List Cl} (h : OwnC w B e A n c ys) : OwnC w.drew B e A n c ys := h
set_option maxRecDepth 100000 in
set_option maxHeartbeats 2000000 in
theorem spec_MiddleFree (o e m : Int) (A : Option Addr) (n c : Nat) (xs : List Cl) (i q : Int) (w : World) (hx : RdC w A n xs) (hc : n ≤ c) (hn : n ≤ 1048576) :
    Calls Try.prog 41 #[shv o e m, .slice A n c, .int .i64 i, .int .i64 q] w (RetL (freeL o e m xs i q) w) := by
  have B0 := below_box w (.cells #[.int .i64 o, .int .i64 e, .int .i64 m] 24)
  have S0 := ShAt.new w o e m
  have HL := hx.len
  obtain ⟨W, HW⟩ : ∃ W, Hid (W = w.alloc (.cells #[.int .i64 o, .int .i64 e, .int .i64 m] 24)) := ⟨_, rfl⟩
  have HWS : Hid (W.heap.size = w.heap.size + 1) := by show _ = _; rw [HW.out]; simp
  rw [← HW.out] at S0 B0
  have OE : OwnL iv (W.alloc (.cells #[] 3)) W.heap.size 3 (some ⟨w.heap.size + 1, 0, none⟩) 0 0 [] := by
    have := OwnL.lit (emb := iv) (e := 3) (B := W.heap.size) W [] (by simp) (Nat.le_refl _)
    rwa [HWS.out] at this ⊢
  by_cases hok : CallsOk o e m xs
  · obtain ⟨hs1, hs2, hs3, hs4, hs5, hs6⟩ := hok.1
    have hn12 : n ≤ 12 := by rw [← HL.out]; exact callsOk_len hok
    obtain ⟨M, rfl⟩ : ∃ M : Nat, m = (M : Int) := ⟨m.toNat, by omega⟩
    have HC := Lib.hid hok; clear hok
    have HF : Hid (freeL o e M xs i q = (upto M).filter fun v => decide (CallsOk o e M (xs ++ [⟨i, q, v⟩]))) := by
      show _ = _
      unfold freeL; rw [if_pos HC.out]; simp
    go_enter Try.func41, Try.ntmps41
    go_wp2
    rw [← HW.out]
    go_loopg [9, 10] M (fun g s i' wr => ∃ (k nn cc : Nat) (A' : Option Addr), k ≤ M ∧ g = M - k ∧ i' = .int .i64 k ∧ s = .slice A' nn cc ∧ OwnL iv wr W.heap.size 3 A' nn cc (((upto M).take k).filter fun v => decide (CallsOk o e M (xs ++ [⟨i, q, v⟩]))) ∧ Below W.heap.size W wr)
    case atStart => exact ⟨0, 0, 0, _, Nat.zero_le _, rfl, rfl, rfl, OE, below_box W _⟩
    case round =>
      obtain ⟨k, nn, cc, A', hk, rfl, rfl, rfl, hown, hbel⟩ := hrel
      have HNN := hown.len
      have hnn : nn ≤ k := by rw [← HNN.out]; exact upto_take_le _ _ _
      have BO := bstep B0 hbel
      have SO := S0.below hbel
      obtain ⟨s0, s1, s2, -⟩ := SO.cells
      by_cases hlt : k < M
      · go_wp2_with fail
        refine (spec_CallsValid o e M A n c xs _ (hx.below BO (Nat.le_refl _)) hc hn).mono ?_
        rintro r w2 ⟨v2, rfl, hv2, b2⟩
        obtain rfl := hv2.out.2 HC.out
        clear hv2 s0 s1 s2
        have B2 := bstep BO b2
        have BW2 := bstep hbel b2
        have S2 := SO.below b2
        have O2 := hown.below b2 (Nat.le_refl _)
        have hz2 := S2.lt
        obtain ⟨s0, s1, s2, -⟩ := S2.cells
        have hx2 := hx.below B2 (Nat.le_refl _)
        obtain ⟨x, HXX⟩ : ∃ x : Cl, Hid (x = ⟨i, q, (k : Int)⟩) := ⟨_, rfl⟩
        have OA : OwnC (w2.alloc (.cells #[] 36)) w2.heap.size 36 (some ⟨w2.heap.size, 0, none⟩) 0 0 [] := OwnM.lit0 w2 (Nat.le_refl _)
        have OC : OwnC ((w2.alloc (.cells #[.int .i64 i, .int .i64 q, .int .i64 (k : Int)] 36)).alloc (.cells #[] 36)) w2.heap.size 36 (some ⟨w2.heap.size + 1, 0, none⟩) 0 0 [] := by
          have := OwnM.lit0 (sz := 3) (emb := clv) (B := w2.heap.size) (e := 36) (w2.alloc (.cells #[.int .i64 i, .int .i64 q, .int .i64 (k : Int)] 36)) (by simp)
          rwa [show (w2.alloc (.cells #[.int .i64 i, .int .i64 q, .int .i64 (k : Int)] 36)).heap.size = w2.heap.size + 1 by simp] at this
        have XA := rdc_one w2 ⟨i, q, (k : Int)⟩
        have XB := rdc_one' w2 (.cells #[] 36) ⟨i, q, (k : Int)⟩
        go_wp2
        go_cut [33] (fun s33 wx => ∃ v : Bool, s33 = .bool v ∧ Hid (v = true ↔ CallsOk o e M (xs ++ [⟨i, q, (k : Int)⟩])) ∧ Below w2.heap.size w2 wx)
        case first =>
          go_region_held3 (fun w' => w'.cell? ⟨w.heap.size, 0, none⟩ = some (.int .i64 o) ∧ w'.cell? ⟨w.heap.size, 1, none⟩ = some (.int .i64 e) ∧ w'.cell? ⟨w.heap.size, 2, none⟩ = some (.int .i64 M))
            (first | go_keep | exact ⟨by assumption, by assumption, by assumption⟩)
            (first
              | (refine step_appN _ rfl (.tmp 24) (.tmp 25) _ rfl clv_len (by omega) w2.heap.size 36 (.agg #[.int .i64 0, .int .i64 0, .int .i64 0]) 24 Try.underlying25 info_call rfl _ 0 0 [] rfl (by first | exact ownm_drew OA | exact ownm_drew (OwnM.alloc OA _) | exact ownm_drew OC) A n c xs rfl (by first | exact rdm_drew (hx2.below (below_box _ _) (Nat.le_refl _)) | exact rdm_drew ((hx2.below (below_box _ _) (Nat.le_refl _)).below (below_box _ _) (Nat.le_refl _))) clv_one n (by omega) xs rfl (by unfold maxLen; omega) (by omega) (by simp; try omega) ?_; intro A5 c5 w5 O5 G5 L5; have S5 : ShAt w5 w.heap.size o e M := ShAt.grown (by first | exact (S2.alloc _).drew | exact ((S2.alloc _).alloc _).drew) G5 (by simp [blk]; omega); obtain ⟨s0', s1', s2', -⟩ := S5.cells; have B5 : Below w2.heap.size w2 w5 := bgrown (by first | exact (below_box w2 _).drew | exact (bstep (below_box w2 _) (below_box _ _)).drew) G5 (by simp; try omega) (by intro g hg; simp [blk] at hg; omega); first | have X5 := RdM.grown (rdm_drew XB) G5 (by simp [blk]) | have X5 := RdM.grown (rdm_drew (XA.below (below_box _ _) (Nat.le_refl _))) G5 (by simp [blk]) | skip)
              | (refine step_appN _ rfl (.tmp 26) (.tmp 31) _ rfl clv_len (by omega) w2.heap.size 36 (.agg #[.int .i64 0, .int .i64 0, .int .i64 0]) 24 Try.underlying25 info_call rfl A5 n c5 xs rfl (by first | exact O5 | exact OwnM.alloc O5 _) _ 1 1 [⟨i, q, (k : Int)⟩] rfl (by first | exact X5 | exact rdc_one w5 ⟨i, q, (k : Int)⟩) clv_one (n + 1) rfl (xs ++ [⟨i, q, (k : Int)⟩]) rfl (by unfold maxLen; omega) (by omega) (by first | exact B5.size | (simp; have := B5.size; omega)) ?_; intro A6 c6 w6 O6 G6 L6; have S6 : ShAt w6 w.heap.size o e M := ShAt.grown (by first | exact S5 | exact S5.alloc _) G6 (fun hh => by have := (OwnM.lt O5 hh.symm).1; omega); obtain ⟨s0', s1', s2', -⟩ := S6.cells; have B6 : Below w2.heap.size w2 w6 := bgrown (by first | exact B5 | exact bstep B5 (below_box _ _)) G6 (by first | exact B5.size | (simp; have := B5.size; omega)) (fun g hg => (OwnM.lt O5 hg).1))
              | (go_simp; go_at_call 17; (refine (spec_CallsValid o e M A6 (n + 1) c6 (xs ++ [⟨i, q, (k : Int)⟩]) w6 (OwnC.rd O6) (OwnM.cap O6).1 (by omega)).mono ?_); rintro r w7 ⟨v7, rfl, HV7, b7⟩; have S7 := S6.below b7; obtain ⟨s0', s1', s2', -⟩ := S7.cells; go_wp2_with fail))
          all_goals
            go_wp2_with fail
            go_meet
            exact ⟨v7, rfl, HV7, bstep B6 b7⟩
        case rest =>
          obtain ⟨v, rfl, HV, b8⟩ := hcut
          have BW8 := bstep BW2 b8
          have O8 := O2.below b8 (Nat.le_refl _)
          have hs8 := BW8.size
          have HU := Lib.hid (upto_take hlt fun v => decide (CallsOk o e M (xs ++ [⟨i, q, v⟩])))
          cases v with
          | false =>
            have HN : Hid (decide (CallsOk o e M (xs ++ [⟨i, q, (k : Int)⟩])) = false) := decide_eq_false (fun h => by have := HV.out.2 h; cases this)
            clear HV
            go_wp2
            go_roundg (M - (k + 1))
            case rel => exact ⟨k + 1, nn, cc, A', by omega, rfl, by go_num, rfl, by rw [HU.out]; simp only [HN.out]; simpa using O8, BW8⟩
            case measure => omega
          | true =>
            have HN : Hid (decide (CallsOk o e M (xs ++ [⟨i, q, (k : Int)⟩])) = true) := decide_eq_true (HV.out.1 rfl)
            clear HV
            go_wp2_with (at_builtin; refine wpList_appL _ rfl (.tmp 34) (.tmp 36) _ rfl W.heap.size 3 (.int .i64 0) 8 Try.underlying38 info_int rfl A' nn cc _ rfl (O8.alloc _) _ 1 1 [(k : Int)] rfl (RdL.one wc _ (k : Int)) (fun _ => rfl) (by unfold maxLen; omega) (by omega) (by simp; omega) ?_; intro A9 c9 w9 O9 G9 L9)
            have B9 := bgrown (bbox BW8 hs8 (.cells #[.int .i64 (k : Int)] 3)) G9 (by simp; omega) (fun g hg => (O8.lt hg).1)
            go_roundg (M - (k + 1))
            case rel => exact ⟨k + 1, nn + 1, c9, A9, by omega, rfl, by go_num, rfl, by rw [HU.out]; simp only [HN.out, if_true]; exact O9, B9⟩
            case measure => omega
      · go_wp2
        go_ret
        refine ⟨A', nn, cc, rfl, ?_, BO⟩
        rw [HF.out]
        rw [List.take_of_length_le (by rw [len_upto]; omega)] at hown
        exact hown.mono B0.size
  · have HC := Lib.hid hok; clear hok
    have HF : Hid (freeL o e m xs i q = []) := freeL_nil (fun h => HC.out h.1)
    go_enter Try.func41, Try.ntmps41
    go_wp2
    rw [← HW.out]
    go_loopg [9, 10] 1 (fun g s i' wr => g = 1 ∧ i' = .int .i64 0 ∧ s = .slice (some ⟨w.heap.size + 1, 0, none⟩) 0 0 ∧ OwnL iv wr W.heap.size 3 (some ⟨w.heap.size + 1, 0, none⟩) 0 0 [] ∧ Below W.heap.size W wr)
    case atStart => exact ⟨rfl, rfl, rfl, OE, below_box W _⟩
    case round =>
      obtain ⟨rfl, rfl, rfl, hown, hbel⟩ := hrel
      have BO := bstep B0 hbel
      have SO := S0.below hbel
      obtain ⟨s0, s1, s2, -⟩ := SO.cells
      by_cases hm0 : 0 < m
      · go_wp2_with fail
        refine (spec_CallsValid o e m A n c xs _ (hx.below BO (Nat.le_refl _)) hc hn).mono ?_
        rintro r w2 ⟨v2, rfl, hv2, b2⟩
        have hvf : v2 = false := by
          cases v2
          · rfl
          · exact absurd (hv2.out.1 rfl) HC.out
        subst hvf
        clear hv2
        go_wp2
        go_ret
        exact ⟨_, 0, 0, rfl, by rw [HF.out]; exact (hown.below b2 (Nat.le_refl _)).mono B0.size, bstep BO b2⟩
      · have hm0z : decide (0 < m) = false := by simpa using hm0
        go_wp2
        go_ret
        exact ⟨_, 0, 0, rfl, by rw [HF.out]; exact hown.mono B0.size, BO⟩
end Go.Proofs.Ytcickfahpcmcdaa
