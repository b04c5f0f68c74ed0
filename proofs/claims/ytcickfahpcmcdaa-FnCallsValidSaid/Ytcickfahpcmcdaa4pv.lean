/- CallPut of the program and of the reference: the calls with a further one through the first free middle switch. Condition: at most 1048576 calls. -/
import Derived.Test.Ytcickfahpcmcdaa4pu
namespace Go.Proofs.Ytcickfahpcmcdaa
open Go.RowKit
set_option linter.unusedSimpArgs false
set_option linter.unusedVariables false
def putF (xs : List Cl) (i q : Int) (fs : List Int) : List Cl × Bool := match fs with | [] => (xs, false) | v :: _ => (xs ++ [⟨i, q, v⟩], true)
def putL (o e m : Int) (xs : List Cl) (i q : Int) : List Cl × Bool := if CallsOk o e m xs then putF xs i q (freeL o e m xs i q) else ([], false)
theorem put_none {o e m : Int} {xs : List Cl} {i q : Int} (h : CallsOk o e m xs) (hf : freeL o e m xs i q = []) : putL o e m xs i q = (xs, false) := by
  rw [putL, if_pos h, hf]; rfl
theorem put_some {o e m : Int} {xs : List Cl} {i q v : Int} (h : CallsOk o e m xs) (hf : (freeL o e m xs i q)[0]? = some v) : putL o e m xs i q = (xs ++ [⟨i, q, v⟩], true) := by
  rw [putL, if_pos h]
  cases hl : freeL o e m xs i q with
  | nil => rw [hl] at hf; cases hf
  | cons x r => rw [hl] at hf; simp at hf; subst hf; rfl
theorem put_len (o e m : Int) (xs : List Cl) (i q : Int) : ∀ (h : xs.length ≤ 1048576), (putL o e m xs i q).1.length ≤ 1048576 := fun h => by
  unfold putL
  split
  · rename_i hc
    have := callsOk_len hc
    cases freeL o e m xs i q with
    | nil => exact h
    | cons v r => simp [putF]; omega
  · simp
set_option maxRecDepth 100000 in
set_option maxHeartbeats 1000000 in
theorem impl_CallPut (o e m : Int) (A : Option Addr) (n c : Nat) (xs : List Cl) (i q : Int) (w : World) (hx : RdC w A n xs) (hc : n ≤ c) (hn : n ≤ 1048576) :
    Calls Try.prog 46 #[shv o e m, .slice A n c, .int .i64 i, .int .i64 q] w (RetCB (putL o e m xs i q) w) := by
  have B0 := below_box w (.cells #[.int .i64 o, .int .i64 e, .int .i64 m] 24)
  have S0 := ShAt.new w o e m
  have hx0 := hx.below B0 (Nat.le_refl _)
  have HL := hx.len
  by_cases hok : CallsOk o e m xs
  · have hn12 : n ≤ 12 := by rw [← HL.out]; exact callsOk_len hok
    have HC := Lib.hid hok; clear hok
    go_enter Try.func46, Try.ntmps46
    go_wp2_with fail
    refine (impl_CallsValid o e m A n c xs _ hx0 hc hn).mono ?_
    rintro r w1 ⟨v1, rfl, hv1, b1⟩
    obtain rfl := hv1.out.2 HC.out
    clear hv1
    have B1 := bstep B0 b1
    have S1 := S0.below b1
    obtain ⟨s0, s1, s2, -⟩ := S1.cells
    go_wp2_with fail
    refine (impl_MiddleFree o e m A n c xs i q _ (hx.below B1 (Nat.le_refl _)) hc hn).mono ?_
    rintro r w2 ⟨A2, n2, c2, rfl, O2, b2⟩
    have B2 := bstep B1 b2
    have HL2 := O2.len
    clear s0 s1 s2
    by_cases hz : n2 = 0
    · subst hz
      have HF : Hid (freeL o e m xs i q = []) := List.eq_nil_of_length_eq_zero HL2.out
      go_wp2_with fail
      refine (impl_copyCalls A n c xs _ (hx.below B2 (Nat.le_refl _)) hn).mono ?_
      rintro r w3 ⟨A3, n3, c3, rfl, HL3, O3, b3⟩
      go_wp2
      go_ret2
      exact RetCB.mk xs (put_none HC.out HF.out) (OwnM.mono O3 B2.size) (bstep B2 b3)
    · have hzz : ((n2 : Int) == 0) = false := by rw [beq_eq_false_iff_ne]; omega
      obtain ⟨g2, v, rfl, hg2, hg2', HV, gc, gf⟩ := O2.at (k := 0) (by omega)
      have hn2 : 0 < n2 := by omega
      have hx2 := hx.below B2.drew (Nat.le_refl _)
      have hbs := B2.size
      have X0 := rdc_one w2 ⟨i, q, v⟩
      go_wp2
      go_cut [8, 9] (fun s8 s9 wx => ∃ (A' : Option Addr) (c' : Nat), s8 = .slice A' (n + 1) c' ∧ s9 = .bool true ∧ OwnC wx w.heap.size 36 A' (n + 1) c' (xs ++ [⟨i, q, v⟩]) ∧ Below w.heap.size w wx)
      case first =>
        go_region_held3 (fun w' => w'.cell? ⟨g2, 0, none⟩ = some (.int .i64 v))
          (first | go_keep | assumption)
          (first
            | (refine step_appN _ rfl (.tmp 26) (.tmp 33) _ rfl clv_len (by omega) w.heap.size 36 (.agg #[.int .i64 0, .int .i64 0, .int .i64 0]) 24 Try.underlying25 info_call rfl A5 n c5 xs rfl (by first | exact O5m | exact OwnM.alloc O5m _) _ 1 1 [⟨i, q, v⟩] rfl (by first | exact rdc_one w5 ⟨i, q, v⟩ | exact X5) clv_one (n + 1) rfl (xs ++ [⟨i, q, v⟩]) rfl (by unfold maxLen; omega) (by omega) (by first | exact B5.size | (simp; have := B5.size; omega)) ?_; intro A6 c6 w6 O6 G6 L6; have k6 : w6.cell? ⟨g2, 0, none⟩ = some (.int .i64 v) := G6.cell (by first | exact k5 | simp [*]) (fun hh => by have h1 : w2.heap.size ≤ g2 := hO5 g2 hh.symm; omega); have B6 : Below w.heap.size w w6 := bgrown (by first | exact B5 | exact bstep B5 (below_box _ _)) G6 (by first | exact B5.size | (simp; have := B5.size; omega)) (fun g hg => by have h1 := hO5 g hg; omega))
            | (go_simp; go_at_call 50; (refine (impl_copyCalls A n c xs _ (by first | exact hx2 | exact rdm_drew ((hx.below B2 (Nat.le_refl _)).below (below_box _ _) (Nat.le_refl _))) hn).mono ?_); rintro r w5 ⟨A5, n5, c5, rfl, HL5, O5, b5⟩; obtain rfl : n = n5 := by { rw [← HL5.out, ← HL.out] }; have B5 : Below w.heap.size w w5 := bstep (by first | exact B2.drew | exact (bstep B2 (below_box _ _)).drew) b5; have k5 : w5.cell? ⟨g2, 0, none⟩ = some (.int .i64 v) := (b5.cell (by simp; try omega)).trans (by simp [*]); have O5m := OwnM.mono (B' := w.heap.size) O5 (by simp; omega); have hO5 : ∀ g, blk A5 = some g → w2.heap.size ≤ g := fun g hg => by { have h1 := (OwnM.lt O5 hg).1; simp at h1; omega }; (first | have X5 := RdM.below (rdm_drew X0) b5 (Nat.le_refl _) | skip); go_wp2_with fail))
        all_goals
          go_wp2_with fail
          go_meet
          exact ⟨A6, c6, rfl, rfl, O6, B6⟩
      case rest =>
        obtain ⟨A', c', rfl, rfl, O, B⟩ := hcut
        go_wp2
        go_ret2
        exact RetCB.mk _ (put_some HC.out HV.out) O B
  · have HC := Lib.hid hok; clear hok
    go_enter Try.func46, Try.ntmps46
    go_wp2_with fail
    refine (impl_CallsValid o e m A n c xs _ hx0 hc hn).mono ?_
    rintro r w1 ⟨v1, rfl, hv1, b1⟩
    have hvf : v1 = false := by
      cases v1
      · rfl
      · exact absurd (hv1.out.1 rfl) HC.out
    subst hvf
    clear hv1
    go_wp2
    go_ret2
    exact RetCB.mk [] (by rw [putL, if_neg HC.out]) OwnM.nil (bstep B0 b1)
set_option maxRecDepth 100000 in
set_option maxHeartbeats 1000000 in
theorem spec_CallPut (o e m : Int) (A : Option Addr) (n c : Nat) (xs : List Cl) (i q : Int) (w : World) (hx : RdC w A n xs) (hc : n ≤ c) (hn : n ≤ 1048576) :
    Calls Try.prog 47 #[shv o e m, .slice A n c, .int .i64 i, .int .i64 q] w (RetCB (putL o e m xs i q) w) := by
  have B0 := below_box w (.cells #[.int .i64 o, .int .i64 e, .int .i64 m] 24)
  have S0 := ShAt.new w o e m
  have hx0 := hx.below B0 (Nat.le_refl _)
  have HL := hx.len
  by_cases hok : CallsOk o e m xs
  · have hn12 : n ≤ 12 := by rw [← HL.out]; exact callsOk_len hok
    have HC := Lib.hid hok; clear hok
    go_enter Try.func47, Try.ntmps47
    go_wp2_with fail
    refine (spec_CallsValid o e m A n c xs _ hx0 hc hn).mono ?_
    rintro r w1 ⟨v1, rfl, hv1, b1⟩
    obtain rfl := hv1.out.2 HC.out
    clear hv1
    have B1 := bstep B0 b1
    have S1 := S0.below b1
    have hx1 := (hx.below B1 (Nat.le_refl _)).below (below_box w1 (.cells #[] 36)) (Nat.le_refl _)
    have O1 : OwnC (w1.alloc (.cells #[] 36)) w1.heap.size 36 (some ⟨w1.heap.size, 0, none⟩) 0 0 [] := OwnM.lit0 w1 (Nat.le_refl _)
    go_wp2_with (at_builtin; refine wpList_appMN _ rfl (.tmp 17) (.tmp 18) _ rfl clv_len (by omega) w1.heap.size 36 (.agg #[.int .i64 0, .int .i64 0, .int .i64 0]) 24 Try.underlying25 info_call rfl _ 0 0 [] rfl O1 A n c xs rfl hx1 clv_one n (by omega) xs rfl (by unfold maxLen; omega) (by omega) (by simp) ?_; intro A2 c2 w2 O2 G2 L2; have S2 := (S1.alloc _).grown G2 (by simp [blk]; have := S1.lt; omega); obtain ⟨s0, s1, s2, -⟩ := S2.cells)
    have B2 : Below w.heap.size w w2 := bgrown (bbox B1 B1.size _) G2 (by simp; have := B1.size; omega) (fun g hg => by simp [blk] at hg; have := B1.size; omega)
    refine (spec_MiddleFree o e m A n c xs i q _ (hx.below B2 (Nat.le_refl _)) hc hn).mono ?_
    rintro r w3 ⟨A3, n3, c3, rfl, O3, b3⟩
    have B3 := bstep B2 b3
    have HL3 := O3.len
    have O2' := OwnM.below O2 b3 (Nat.le_refl _)
    have hbs := B1.size
    have hbs3 := b3.size
    have hbs2 := G2.size
    simp at hbs2
    clear s0 s1 s2
    by_cases hz : n3 = 0
    · subst hz
      have HF : Hid (freeL o e m xs i q = []) := List.eq_nil_of_length_eq_zero HL3.out
      go_wp2
      go_ret2
      exact RetCB.mk xs (put_none HC.out HF.out) (OwnM.mono O2' B1.size) B3
    · have hzz : ((n3 : Int) == 0) = false := by rw [beq_eq_false_iff_ne]; omega
      obtain ⟨g3, v, rfl, hg3, hg3', HV, gc, gf⟩ := O3.at (k := 0) (by omega)
      have hn3 : (0 : Int) < (n3 : Int) := by omega
      go_wp2_with (at_builtin; refine wpList_appM _ rfl (.tmp 29) (.tmp 36) _ rfl clv_len (by omega) w1.heap.size 36 (.agg #[.int .i64 0, .int .i64 0, .int .i64 0]) 24 Try.underlying25 info_call rfl A2 n c2 xs rfl (OwnM.alloc O2' _) _ 1 1 [⟨i, q, v⟩] rfl (rdc_one w3 ⟨i, q, v⟩) clv_one (by unfold maxLen; omega) (by omega) (by simp; omega) ?_; intro A4 c4 w4 O4 G4 L4)
      have B4 := bgrown (bbox B3 B3.size _) G4 (by simp; omega) (fun g hg => by have := (OwnM.lt O2' hg).1; omega)
      go_ret2
      exact RetCB.mk _ (put_some HC.out HV.out) (OwnM.mono O4 hbs) B4
  · have HC := Lib.hid hok; clear hok
    go_enter Try.func47, Try.ntmps47
    go_wp2_with fail
    refine (spec_CallsValid o e m A n c xs _ hx0 hc hn).mono ?_
    rintro r w1 ⟨v1, rfl, hv1, b1⟩
    have hvf : v1 = false := by
      cases v1
      · rfl
      · exact absurd (hv1.out.1 rfl) HC.out
    subst hvf
    clear hv1
    have B1 := bstep B0 b1
    go_wp2
    go_ret2
    exact RetCB.mk [] (by rw [putL, if_neg HC.out]) (OwnM.lit0 w1 B1.size) (bbox B1 B1.size _)
end Go.Proofs.Ytcickfahpcmcdaa
