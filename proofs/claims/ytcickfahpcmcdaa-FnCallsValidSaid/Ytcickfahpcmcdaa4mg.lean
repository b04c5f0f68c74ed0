/- MiddleFree of the program and of the reference: the middle switches that are free for a further call. Condition: at most 1048576 calls. -/
import Derived.Test.Ytcickfahpcmcdaa4mf
import Derived.Deep.DeepCutAuto
namespace Go.Proofs.Ytcickfahpcmcdaa
open Go.RowKit
set_option linter.unusedSimpArgs false
set_option linter.unusedVariables false
theorem upto_take {m k : Nat} (h : k < m) (P : Int → Bool) : ((upto m).take (k + 1)).filter P = ((upto m).take k).filter P ++ (if P k then [(k : Int)] else []) := by
  rw [take_snoc (upto_at h), List.filter_append]
  split
  · simp [*]
  · simp [*]
theorem upto_take_le (m k : Nat) (P : Int → Bool) : (((upto m).take k).filter P).length ≤ k := Nat.le_trans (List.length_filter_le _ _) (by simp; omega)
theorem freeL_all {o e : Int} {m : Nat} {xs : List Cl} {i q : Int} (h : CallsOk o e m xs) (hf : LinesFree o e xs i q) {k : Nat} (hk : m ≤ k) :
    ((upto m).take k).filter (fun v => !usedFrom e xs (i / e) v && !usedTo e xs (q / e) v) = freeL o e m xs i q := by
  rw [freeL_eq h hf, List.take_of_length_le (by rw [len_upto]; exact hk)]; simp
set_option maxRecDepth 100000 in
set_option maxHeartbeats 1000000 in
theorem impl_MiddleFree (o e m : Int) (A : Option Addr) (n c : Nat) (xs : List Cl) (i q : Int) (w : World) (hx : RdC w A n xs) (hc : n ≤ c) (hn : n ≤ 1048576) :
    Calls Try.prog 23 #[shv o e m, .slice A n c, .int .i64 i, .int .i64 q] w (RetL (freeL o e m xs i q) w) := by
  have B0 := below_box w (.cells #[.int .i64 o, .int .i64 e, .int .i64 m] 24)
  have S0 := ShAt.new w o e m
  have hx0 := hx.below B0 (Nat.le_refl _)
  by_cases hok : CallsOk o e m xs
  · obtain ⟨hs1, hs2, hs3, hs4, hs5, hs6⟩ := hok.1
    obtain ⟨hp1, hp2⟩ := prod_bd hok.1
    obtain ⟨M, rfl⟩ : ∃ M : Nat, m = (M : Int) := ⟨m.toNat, by omega⟩
    have HC := Lib.hid hok; clear hok
    go_enter Try.func23, Try.ntmps23
    go_wp2_with fail
    refine (impl_CallsValid o e M A n c xs _ hx0 hc hn).mono ?_
    rintro r w1 ⟨v1, rfl, hv1, b1⟩
    obtain rfl := hv1.out.2 HC.out
    clear hv1
    have B1 := bstep B0 b1
    have S1 := S0.below b1
    obtain ⟨s0, s1, s2, -⟩ := S1.cells
    go_wp2_with fail
    refine (impl_linesFree o e M A n c xs i q _ (hx.below B1 (Nat.le_refl _)) hn HC.out.1).mono ?_
    rintro r w2 ⟨v2, rfl, hv2, b2⟩
    have B2 := bstep B1 b2
    have S2 := S1.below b2
    clear s0 s1 s2
    cases v2 with
    | false =>
      have HN : Hid (¬ LinesFree o e xs i q) := fun h => by have := hv2.out.2 h; cases this
      clear hv2
      go_wp2
      go_ret
      exact ⟨none, 0, 0, rfl, by rw [freeL_nil (fun h => HN.out h.2)]; exact OwnL.nil, B2⟩
    | true =>
      have HLF : Hid (LinesFree o e xs i q) := hv2.out.1 rfl
      clear hv2
      obtain ⟨⟨hi0, hi1⟩, ⟨hq0, hq1⟩, -⟩ := HLF.out
      have HQ1 := Lib.hid (IntWalk.i64_quo i e ⟨hi0, by omega, hs3⟩)
      have HQ2 := Lib.hid (IntWalk.i64_quo q e ⟨hq0, by omega, hs3⟩)
      have HE0 : Hid (¬ e = 0) := by show ¬ e = 0; omega
      obtain ⟨s0, s1, s2, -⟩ := S2.cells
      go_wp2
      have q1 := HQ1.out
      have e0 := HE0.out
      have hx2 := hx.below B2.drew (Nat.le_refl _)
      go_region_held3 (fun w' => w'.cell? ⟨w.heap.size, 0, none⟩ = some (.int .i64 o) ∧ w'.cell? ⟨w.heap.size, 1, none⟩ = some (.int .i64 e) ∧ w'.cell? ⟨w.heap.size, 2, none⟩ = some (.int .i64 M))
        (first | go_keep | exact ⟨by assumption, by assumption, by assumption⟩)
        ((go_at_call 53; (refine (impl_middlesFrom o e M A n c xs (i / e) _ hx2 hn HC.out).mono ?_); rintro r w3 ⟨A3, n3, c3, rfl, HN3, O3, b3⟩; have S3 : ShAt w3 w.heap.size o e M := ShAt.below S2.drew b3; obtain ⟨s0', s1', s2', -⟩ := S3.cells))
      clear q1 e0 s0 s1 s2
      have B3 := bstep B2.drew b3
      clear s0' s1' s2'
      obtain ⟨s0, s1, s2, -⟩ := S3.cells
      go_wp2
      have q2 := HQ2.out
      have e0 := HE0.out
      have hx3 := hx.below B3.drew (Nat.le_refl _)
      go_region_held3 (fun w' => w'.cell? ⟨w.heap.size, 0, none⟩ = some (.int .i64 o) ∧ w'.cell? ⟨w.heap.size, 1, none⟩ = some (.int .i64 e) ∧ w'.cell? ⟨w.heap.size, 2, none⟩ = some (.int .i64 M))
        (first | go_keep | exact ⟨by assumption, by assumption, by assumption⟩)
        ((go_at_call 54; (refine (impl_middlesTo o e M A n c xs (q / e) _ hx3 hn HC.out).mono ?_); rintro r w4 ⟨A4, n4, c4, rfl, HN4, O4, b4⟩; have S4 : ShAt w4 w.heap.size o e M := ShAt.below S3.drew b4; obtain ⟨s0', s1', s2', -⟩ := S4.cells))
      clear q2 e0 s0 s1 s2
      have B4 := bstep B3.drew b4
      clear s0' s1' s2'
      obtain ⟨s0, s1, s2, -⟩ := S4.cells
      have O3' := O3.drew.below b4 (Nat.le_refl _)
      have hn3 : n3 = M := by rw [HN3.out]; simp [tabOf]
      have hn4 : n4 = M := by rw [HN4.out]; simp [tabOf]
      subst hn3 hn4
      clear HN3 HN4
      go_wp2
      clear s0 s1 s2
      go_loopg [11, 41] n4 (fun g s i' wr => ∃ (k nn cc : Nat) (A' : Option Addr), k ≤ n4 ∧ g = n4 - k ∧ i' = .int .i64 k ∧ s = .slice A' nn cc ∧ OwnL iv wr w4.heap.size 3 A' nn cc (((upto n4).take k).filter fun v => !usedFrom e xs (i / e) v && !usedTo e xs (q / e) v) ∧ Below w4.heap.size w4 wr)
      case atStart => exact ⟨0, 0, 0, none, Nat.zero_le _, rfl, rfl, rfl, OwnL.nil, Below.refl _ _⟩
      case round =>
        obtain ⟨k, nn, cc, A', hk, rfl, rfl, rfl, hown, hbel⟩ := hrel
        have hbs := hbel.size
        have HNN := hown.len
        have hnn : nn ≤ k := by rw [← HNN.out]; exact upto_take_le _ _ _
        by_cases hlt : k < n4
        · obtain ⟨bb3, off3, z3, rfl, HZ3, g3⟩ := ((O3'.rd).below hbel (Nat.le_refl _)).at hlt
          obtain ⟨bb4, off4, z4, rfl, HZ4, g4⟩ := ((O4.rd).below hbel (Nat.le_refl _)).at hlt
          have HE3 : Hid (usedFrom e xs (i / e) k = z3) := by show _ = _; have := HZ3.out; rw [tab_at hlt] at this; injection this
          have HE4 : Hid (usedTo e xs (q / e) k = z4) := by show _ = _; have := HZ4.out; rw [tab_at hlt] at this; injection this
          have HU := Lib.hid (upto_take hlt fun v => !usedFrom e xs (i / e) v && !usedTo e xs (q / e) v)
          cases z3 with
          | true =>
            go_wp2
            go_roundg (n4 - (k + 1))
            case rel => exact ⟨k + 1, nn, cc, A', by omega, rfl, by go_num, rfl, by rw [HU.out]; simp only [HE3.out, Bool.not_true, Bool.false_and]; simpa using hown, hbel⟩
            case measure => omega
          | false =>
            cases z4 with
            | true =>
              go_wp2
              go_roundg (n4 - (k + 1))
              case rel => exact ⟨k + 1, nn, cc, A', by omega, rfl, by go_num, rfl, by rw [HU.out]; simp only [HE3.out, HE4.out, Bool.not_true, Bool.and_false]; simpa using hown, hbel⟩
              case measure => omega
            | false =>
              go_wp2_with (at_builtin; refine wpList_appL _ rfl (.tmp 56) (.tmp 58) _ rfl w4.heap.size 3 (.int .i64 0) 8 Try.underlying38 info_int rfl A' nn cc _ rfl (hown.alloc _) _ 1 1 [(k : Int)] rfl (RdL.one wr _ (k : Int)) (fun _ => rfl) (by unfold maxLen; omega) (by omega) (by simp; omega) ?_; intro A5 c5 w5 O5 G5 L5)
              have B5 := bgrown (bbox hbel hbs (.cells #[.int .i64 (k : Int)] 3)) G5 (by simp; omega) (fun g hg => (hown.lt hg).1)
              go_roundg (n4 - (k + 1))
              case rel => exact ⟨k + 1, nn + 1, c5, A5, by omega, rfl, by go_num, rfl, by rw [HU.out]; simp only [HE3.out, HE4.out, Bool.not_false, Bool.and_self, if_true]; exact O5, B5⟩
              case measure => omega
        · go_wp2
          go_ret
          exact ⟨A', nn, cc, rfl, by rw [← freeL_all HC.out HLF.out (k := k) (by omega)]; exact hown.mono B4.size, bstep B4 hbel⟩
  · have HC := Lib.hid hok; clear hok
    go_enter Try.func23, Try.ntmps23
    go_wp2_with fail
    refine (impl_CallsValid o e m A n c xs _ hx0 hc hn).mono ?_
    rintro r w1 ⟨v1, rfl, hv1, b1⟩
    have hvf : v1 = false := by
      cases v1
      · rfl
      · exact absurd (hv1.out.1 rfl) HC.out
    subst hvf
    clear hv1
    go_wp2
    go_ret
    exact ⟨none, 0, 0, rfl, by rw [freeL_nil (fun h => HC.out h.1)]; exact OwnL.nil, bstep B0 b1⟩
end Go.Proofs.Ytcickfahpcmcdaa
