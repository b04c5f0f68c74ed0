/- l1Has, l4Line, l4Used and l4First of the reference. Condition: valid calls, at most 1048576. -/
import Derived.Test.Ytcickfahpcmcdaa4mp
namespace Go.Proofs.Ytcickfahpcmcdaa
open Go.RowKit
set_option linter.unusedSimpArgs false
set_option linter.unusedVariables false
theorem true_succ {f : Int → Bool} {k : Nat} (h : ∀ j : Nat, j < k → f j = true) (hk : f k = true) : ∀ j : Nat, j < k + 1 → f j = true := fun j hj => by
  rcases (by omega : j < k ∨ j = k) with h1 | rfl
  · exact h j h1
  · exact hk
theorem l1Has_any (A : Option Addr) (n c : Nat) (xs : List Int) (v : Int) (w : World) (hx : RdL iv w A n xs) (hn : n ≤ 1048576) :
    Calls Try.prog 62 #[.slice A n c, .int .i64 v] w fun e w' => e = .returned (.bool (decide (v ∈ xs))) ∧ ∃ m, w' = w.drewN m := by
  have HL := hx.len
  go_enter Try.func62, Try.ntmps62
  go_wp2
  go_loopg [5] n (fun g i wr => ∃ k m : Nat, k ≤ n ∧ g = n - k ∧ i = .int .i64 k ∧ Hid (v ∉ xs.take k) ∧ wr = w.drewN m)
  case atStart => exact ⟨0, 0, Nat.zero_le _, rfl, rfl, (by show v ∉ xs.take 0; simp), rfl⟩
  case round =>
    obtain ⟨k, m, hk, rfl, rfl, HN, rfl⟩ := hrel
    by_cases hlt : k < n
    · obtain ⟨b, off, x, rfl, HX, g⟩ := hx.at hlt
      by_cases hv : x = v
      · subst hv
        go_wp2
        go_ret
        exact ⟨ret_bool (decide_eq_true (List.mem_of_getElem? HX.out)).symm, _, rfl⟩
      · have hz : (x == v) = false := by simpa using hv
        have HV := Lib.hid hv; clear hv
        go_wp2
        go_roundg (n - (k + 1))
        case rel => exact ⟨k + 1, m, by omega, rfl, by go_num, (by
          show v ∉ xs.take (k + 1)
          rw [take_snoc HX.out, List.mem_append]
          rintro (h | h)
          · exact HN.out h
          · simp at h; exact HV.out h.symm), rfl⟩
        case measure => omega
    · go_wp2
      go_ret
      exact ⟨ret_bool (decide_eq_false (by have := HN.out; rwa [List.take_of_length_le (by rw [HL.out]; omega)] at this)).symm, _, rfl⟩
theorem l4Line_any (A : Option Addr) (n c : Nat) (xs : List Cl) (i q : Int) (w : World) (hx : RdC w A n xs) (hn : n ≤ 1048576) :
    Calls Try.prog 59 #[.slice A n c, .int .i64 i, .int .i64 q] w (RetB (∃ c ∈ xs, c.i = i ∨ c.o = q) w) := by
  have HL := hx.len
  go_enter Try.func59, Try.ntmps59
  go_wp2
  go_loopg [7] n (fun g i' wr => ∃ k m : Nat, k ≤ n ∧ g = n - k ∧ i' = .int .i64 k ∧ Hid (∀ c ∈ xs.take k, ¬ (c.i = i ∨ c.o = q)) ∧ wr = w.drewN m)
  case atStart => exact ⟨0, 0, Nat.zero_le _, rfl, rfl, (by show ∀ c ∈ xs.take 0, ¬ (c.i = i ∨ c.o = q); simp), rfl⟩
  case round =>
    obtain ⟨k, m, hk, rfl, rfl, HN, rfl⟩ := hrel
    by_cases hlt : k < n
    · obtain ⟨b, off, x, rfl, HX, g0, g1, g2⟩ := RdC.at hx hlt
      by_cases hi : x.i = i
      · have hz : (x.i == i) = true := by simpa using hi
        have HF : Hid (∃ c ∈ xs, c.i = i ∨ c.o = q) := ⟨x, List.mem_of_getElem? HX.out, .inl hi⟩
        clear hi
        go_wp2
        go_ret
        exact RetB.yes HF.out _
      · have hz : (x.i == i) = false := by simpa using hi
        by_cases ho : x.o = q
        · have hz2 : (x.o == q) = true := by simpa using ho
          have HF : Hid (∃ c ∈ xs, c.i = i ∨ c.o = q) := ⟨x, List.mem_of_getElem? HX.out, .inr ho⟩
          clear hi ho
          go_wp2
          go_ret
          exact RetB.yes HF.out _
        · have hz2 : (x.o == q) = false := by simpa using ho
          have HF : Hid (¬ (x.i = i ∨ x.o = q)) := by show ¬ _; rintro (h | h); · exact hi h
                                                      · exact ho h
          clear hi ho
          go_wp2
          go_roundg (n - (k + 1))
          case rel => exact ⟨k + 1, m, by omega, rfl, by go_num, (by
            show ∀ c ∈ xs.take (k + 1), ¬ (c.i = i ∨ c.o = q)
            rw [take_snoc HX.out]
            intro d hd
            rcases List.mem_append.1 hd with h1 | h1
            · exact HN.out d h1
            · simp at h1; subst h1; exact HF.out), rfl⟩
          case measure => omega
    · go_wp2
      go_ret
      exact RetB.no (by
        rintro ⟨d, hd, h⟩
        have := HN.out
        rw [List.take_of_length_le (by rw [HL.out]; omega)] at this
        exact this d hd h) _
/-- The middle switches that the calls of an outer switch use. -/
def viaFrom (e : Int) (xs : List Cl) (x : Int) : List Int := (xs.filter fun c => decide (c.i / e = x)).map Cl.v
theorem viaFrom_mem (e : Int) (xs : List Cl) (x v : Int) : decide (v ∈ viaFrom e xs x) = usedFrom e xs x v := by
  rw [Bool.eq_iff_iff, decide_eq_true_eq, usedFrom_iff]
  unfold viaFrom
  rw [List.mem_map]
  constructor
  · rintro ⟨c, hc, rfl⟩
    have := List.mem_filter.1 hc
    exact ⟨c, this.1, by simpa using this.2, rfl⟩
  · rintro ⟨c, hc, hq, rfl⟩
    exact ⟨c, List.mem_filter.2 ⟨hc, by simpa using hq⟩, rfl⟩
theorem viaFrom_len (e : Int) (xs : List Cl) (x : Int) (k : Nat) : (viaFrom e (xs.take k) x).length ≤ k := by
  unfold viaFrom; rw [List.length_map]; exact Nat.le_trans (List.length_filter_le _ _) (by simp; omega)
theorem viaFrom_yes {e : Int} {xs : List Cl} {x : Int} {k : Nat} {y : Cl} (hy : xs[k]? = some y) (hq : y.i / e = x) : viaFrom e (xs.take (k + 1)) x = viaFrom e (xs.take k) x ++ [y.v] := by
  unfold viaFrom; rw [filter_take_yes hy (by simpa using hq)]; simp
theorem viaFrom_no {e : Int} {xs : List Cl} {x : Int} {k : Nat} {y : Cl} (hy : xs[k]? = some y) (hq : ¬ y.i / e = x) : viaFrom e (xs.take (k + 1)) x = viaFrom e (xs.take k) x := by
  unfold viaFrom; rw [filter_take_no hy (by simpa using hq)]
set_option maxRecDepth 100000 in
set_option maxHeartbeats 1000000 in
theorem l4Used0_any (o e m : Int) (A : Option Addr) (n c : Nat) (xs : List Cl) (x : Int) (w : World) (hx : RdC w A n xs) (hn : n ≤ 1048576) (he : 1 ≤ e) (hl : ∀ c ∈ xs, 0 ≤ c.i ∧ c.i ≤ 1000) :
    Calls Try.prog 61 #[shv o e m, .slice A n c, .int .i64 x, .int .i64 0] w (RetL (viaFrom e xs x) w) := by
  have HL := hx.len
  have HLL := Lib.hid hl; clear hl
  have B0 := below_box w (.cells #[.int .i64 o, .int .i64 e, .int .i64 m] 24)
  have S0 := ShAt.new w o e m
  obtain ⟨W, HW⟩ : ∃ W, Hid (W = w.alloc (.cells #[.int .i64 o, .int .i64 e, .int .i64 m] 24)) := ⟨_, rfl⟩
  have HWS : Hid (W.heap.size = w.heap.size + 1) := by show _ = _; rw [HW.out]; simp
  rw [← HW.out] at S0 B0
  have OE : OwnL iv (W.alloc (.cells #[] 3)) W.heap.size 3 (some ⟨w.heap.size + 1, 0, none⟩) 0 0 [] := by
    have := OwnL.lit (emb := iv) (e := 3) (B := W.heap.size) W [] (by simp) (Nat.le_refl _)
    rwa [HWS.out] at this ⊢
  have HE0 : Hid (¬ e = 0) := by show ¬ e = 0; omega
  go_enter Try.func61, Try.ntmps61
  go_wp2
  rw [← HW.out]
  go_loopg [9, 10] n (fun g s i' wr => ∃ (k nn cc : Nat) (A' : Option Addr), k ≤ n ∧ g = n - k ∧ i' = .int .i64 k ∧ s = .slice A' nn cc ∧ OwnL iv wr W.heap.size 3 A' nn cc (viaFrom e (xs.take k) x) ∧ Below W.heap.size W wr)
  case atStart => exact ⟨0, 0, 0, _, Nat.zero_le _, rfl, rfl, rfl, OE, below_box W _⟩
  case round =>
    obtain ⟨k, nn, cc, A', hk, rfl, rfl, rfl, hown, hbel⟩ := hrel
    have HNN := hown.len
    have hnn : nn ≤ k := by rw [← HNN.out]; exact viaFrom_len _ _ _ _
    have BO := bstep B0 hbel
    have SO := S0.below hbel
    have hbs := hbel.size
    by_cases hlt : k < n
    · obtain ⟨b, off, y, rfl, HY, g0, g1, g2⟩ := RdC.at (hx.below BO (Nat.le_refl _)) hlt
      obtain ⟨hy0, hy1⟩ := HLL.out y (List.mem_of_getElem? HY.out)
      have HQ := Lib.hid (IntWalk.i64_quo y.i e ⟨hy0, by omega, he⟩)
      obtain ⟨s0, s1, s2, -⟩ := SO.cells
      by_cases hq : y.i / e = x
      · have hz : (y.i / e == x) = true := by simpa using hq
        have HP := Lib.hid (viaFrom_yes HY.out hq); clear hq
        go_wp2
        have q1 := HQ.out
        have e0 := HE0.out
        go_quiet (fail)
        clear q1 e0 s0 s1 s2
        have hown2 := hown.drewN nq
        have hbel2 := below_drewN hbel nq
        go_wp2_with (at_builtin; refine wpList_appL _ rfl (.tmp 48) (.tmp 54) _ rfl W.heap.size 3 (.int .i64 0) 8 Try.underlying38 info_int rfl A' nn cc _ rfl (OwnL.drewN (hown.alloc _) nq) _ 1 1 [y.v] rfl (RdL.drewN (RdL.one wr _ y.v) nq) (fun _ => rfl) (by unfold maxLen; omega) (by omega) (by simp; omega) ?_; intro A5 c5 w5 O5 G5 L5)
        have B5 := bgrown (below_drewN (bbox hbel hbs (.cells #[.int .i64 y.v] 3)) nq) G5 (by simp; omega) (fun g hg => (hown.lt hg).1)
        go_roundg (n - (k + 1))
        case rel => exact ⟨k + 1, nn + 1, c5, A5, by omega, rfl, by go_num, rfl, by rw [HP.out]; exact O5, B5⟩
        case measure => omega
      · have hz : (y.i / e == x) = false := by simpa using hq
        have HP := Lib.hid (viaFrom_no HY.out hq); clear hq
        go_wp2
        have q1 := HQ.out
        have e0 := HE0.out
        go_quiet (fail)
        clear q1 e0 s0 s1 s2
        go_wp2
        go_roundg (n - (k + 1))
        case rel => exact ⟨k + 1, nn, cc, A', by omega, rfl, by go_num, rfl, by rw [HP.out]; exact hown.drewN nq, below_drewN hbel nq⟩
        case measure => omega
    · go_wp2
      go_ret
      rw [List.take_of_length_le (by rw [HL.out]; omega)] at hown
      exact ⟨A', nn, cc, rfl, hown.mono B0.size, BO⟩
/-- The middle switches that the calls of an outer switch use. -/
def viaTo (e : Int) (xs : List Cl) (x : Int) : List Int := (xs.filter fun c => decide (c.o / e = x)).map Cl.v
theorem viaTo_mem (e : Int) (xs : List Cl) (x v : Int) : decide (v ∈ viaTo e xs x) = usedTo e xs x v := by
  rw [Bool.eq_iff_iff, decide_eq_true_eq, usedTo_iff]
  unfold viaTo
  rw [List.mem_map]
  constructor
  · rintro ⟨c, hc, rfl⟩
    have := List.mem_filter.1 hc
    exact ⟨c, this.1, by simpa using this.2, rfl⟩
  · rintro ⟨c, hc, hq, rfl⟩
    exact ⟨c, List.mem_filter.2 ⟨hc, by simpa using hq⟩, rfl⟩
theorem viaTo_len (e : Int) (xs : List Cl) (x : Int) (k : Nat) : (viaTo e (xs.take k) x).length ≤ k := by
  unfold viaTo; rw [List.length_map]; exact Nat.le_trans (List.length_filter_le _ _) (by simp; omega)
theorem viaTo_yes {e : Int} {xs : List Cl} {x : Int} {k : Nat} {y : Cl} (hy : xs[k]? = some y) (hq : y.o / e = x) : viaTo e (xs.take (k + 1)) x = viaTo e (xs.take k) x ++ [y.v] := by
  unfold viaTo; rw [filter_take_yes hy (by simpa using hq)]; simp
theorem viaTo_no {e : Int} {xs : List Cl} {x : Int} {k : Nat} {y : Cl} (hy : xs[k]? = some y) (hq : ¬ y.o / e = x) : viaTo e (xs.take (k + 1)) x = viaTo e (xs.take k) x := by
  unfold viaTo; rw [filter_take_no hy (by simpa using hq)]
set_option maxRecDepth 100000 in
set_option maxHeartbeats 1000000 in
theorem l4Used1_any (o e m : Int) (A : Option Addr) (n c : Nat) (xs : List Cl) (x : Int) (w : World) (hx : RdC w A n xs) (hn : n ≤ 1048576) (he : 1 ≤ e) (hl : ∀ c ∈ xs, 0 ≤ c.o ∧ c.o ≤ 1000) :
    Calls Try.prog 61 #[shv o e m, .slice A n c, .int .i64 x, .int .i64 1] w (RetL (viaTo e xs x) w) := by
  have HL := hx.len
  have HLL := Lib.hid hl; clear hl
  have B0 := below_box w (.cells #[.int .i64 o, .int .i64 e, .int .i64 m] 24)
  have S0 := ShAt.new w o e m
  obtain ⟨W, HW⟩ : ∃ W, Hid (W = w.alloc (.cells #[.int .i64 o, .int .i64 e, .int .i64 m] 24)) := ⟨_, rfl⟩
  have HWS : Hid (W.heap.size = w.heap.size + 1) := by show _ = _; rw [HW.out]; simp
  rw [← HW.out] at S0 B0
  have OE : OwnL iv (W.alloc (.cells #[] 3)) W.heap.size 3 (some ⟨w.heap.size + 1, 0, none⟩) 0 0 [] := by
    have := OwnL.lit (emb := iv) (e := 3) (B := W.heap.size) W [] (by simp) (Nat.le_refl _)
    rwa [HWS.out] at this ⊢
  have HE0 : Hid (¬ e = 0) := by show ¬ e = 0; omega
  go_enter Try.func61, Try.ntmps61
  go_wp2
  rw [← HW.out]
  go_loopg [9, 10] n (fun g s i' wr => ∃ (k nn cc : Nat) (A' : Option Addr), k ≤ n ∧ g = n - k ∧ i' = .int .i64 k ∧ s = .slice A' nn cc ∧ OwnL iv wr W.heap.size 3 A' nn cc (viaTo e (xs.take k) x) ∧ Below W.heap.size W wr)
  case atStart => exact ⟨0, 0, 0, _, Nat.zero_le _, rfl, rfl, rfl, OE, below_box W _⟩
  case round =>
    obtain ⟨k, nn, cc, A', hk, rfl, rfl, rfl, hown, hbel⟩ := hrel
    have HNN := hown.len
    have hnn : nn ≤ k := by rw [← HNN.out]; exact viaTo_len _ _ _ _
    have BO := bstep B0 hbel
    have SO := S0.below hbel
    have hbs := hbel.size
    by_cases hlt : k < n
    · obtain ⟨b, off, y, rfl, HY, g0, g1, g2⟩ := RdC.at (hx.below BO (Nat.le_refl _)) hlt
      obtain ⟨hy0, hy1⟩ := HLL.out y (List.mem_of_getElem? HY.out)
      have HQ := Lib.hid (IntWalk.i64_quo y.o e ⟨hy0, by omega, he⟩)
      obtain ⟨s0, s1, s2, -⟩ := SO.cells
      by_cases hq : y.o / e = x
      · have hz : (y.o / e == x) = true := by simpa using hq
        have HP := Lib.hid (viaTo_yes HY.out hq); clear hq
        go_wp2
        have q1 := HQ.out
        have e0 := HE0.out
        go_quiet (fail)
        clear q1 e0 s0 s1 s2
        have hown2 := hown.drewN nq
        have hbel2 := below_drewN hbel nq
        go_wp2_with (at_builtin; refine wpList_appL _ rfl (.tmp 48) (.tmp 54) _ rfl W.heap.size 3 (.int .i64 0) 8 Try.underlying38 info_int rfl A' nn cc _ rfl (OwnL.drewN (hown.alloc _) nq) _ 1 1 [y.v] rfl (RdL.drewN (RdL.one wr _ y.v) nq) (fun _ => rfl) (by unfold maxLen; omega) (by omega) (by simp; omega) ?_; intro A5 c5 w5 O5 G5 L5)
        have B5 := bgrown (below_drewN (bbox hbel hbs (.cells #[.int .i64 y.v] 3)) nq) G5 (by simp; omega) (fun g hg => (hown.lt hg).1)
        go_roundg (n - (k + 1))
        case rel => exact ⟨k + 1, nn + 1, c5, A5, by omega, rfl, by go_num, rfl, by rw [HP.out]; exact O5, B5⟩
        case measure => omega
      · have hz : (y.o / e == x) = false := by simpa using hq
        have HP := Lib.hid (viaTo_no HY.out hq); clear hq
        go_wp2
        have q1 := HQ.out
        have e0 := HE0.out
        go_quiet (fail)
        clear q1 e0 s0 s1 s2
        go_wp2
        go_roundg (n - (k + 1))
        case rel => exact ⟨k + 1, nn, cc, A', by omega, rfl, by go_num, rfl, by rw [HP.out]; exact hown.drewN nq, below_drewN hbel nq⟩
        case measure => omega
    · go_wp2
      go_ret
      rw [List.take_of_length_le (by rw [HL.out]; omega)] at hown
      exact ⟨A', nn, cc, rfl, hown.mono B0.size, BO⟩
theorem l4First_any (o e : Int) (M : Nat) (A : Option Addr) (n c : Nat) (us : List Int) (f : Int → Bool) (w : World) (hx : RdL iv w A n us) (hn : n ≤ 1048576) (hM : M ≤ 5) (hf : ∀ v, decide (v ∈ us) = f v) :
    Calls Try.prog 60 #[shv o e M, .slice A n c] w fun x w' => x = .returned (.int .i64 (firstV M f)) ∧ Below w.heap.size w w' := by
  have HFF := Lib.hid hf; clear hf
  have B0 := below_box w (.cells #[.int .i64 o, .int .i64 e, .int .i64 (M : Int)] 24)
  have S0 := ShAt.new w o e M
  obtain ⟨W, HW⟩ : ∃ W, Hid (W = w.alloc (.cells #[.int .i64 o, .int .i64 e, .int .i64 (M : Int)] 24)) := ⟨_, rfl⟩
  rw [← HW.out] at S0 B0
  have hx0 := hx.below B0 (Nat.le_refl _)
  obtain ⟨s0, s1, s2, -⟩ := S0.cells
  go_enter Try.func60, Try.ntmps60
  go_wp2
  rw [← HW.out]
  go_loopg [5] M (fun g i' wr => ∃ k m : Nat, k ≤ M ∧ g = M - k ∧ i' = .int .i64 k ∧ Hid (∀ j : Nat, j < k → f j = true) ∧ wr = W.drewN m)
  case atStart => exact ⟨0, 0, Nat.zero_le _, rfl, rfl, fun j hj => absurd hj (Nat.not_lt_zero _), rfl⟩
  case round =>
    obtain ⟨k, m, hk, rfl, rfl, HB, rfl⟩ := hrel
    by_cases hlt : k < M
    · go_wp2_with fail
      refine (l1Has_any A n c us k _ (hx0.drewN _) hn).mono ?_
      rintro r w2 ⟨rfl, m2, rfl⟩
      rw [HFF.out k]
      cases hfk : f k with
      | true =>
        have HE := Lib.hid hfk; clear hfk
        go_wp2
        go_roundg (M - (k + 1))
        case rel => exact ⟨k + 1, m + m2, by omega, rfl, by go_num, true_succ HB.out HE.out, by simp⟩
        case measure => omega
      | false =>
        have HE := Lib.hid hfk; clear hfk
        go_wp2
        go_ret
        exact ⟨ret_int (firstV_found hlt HB.out HE.out).symm, below_drewN B0 _⟩
    · obtain rfl : k = M := by omega
      go_wp2
      go_ret
      exact ⟨ret_int (firstV_none HB.out).symm, below_drewN B0 _⟩
end Go.Proofs.Ytcickfahpcmcdaa
