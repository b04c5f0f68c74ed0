/- FnLengthsValid returns true for every code. No condition. -/
import Derived.Test.YtplalcciodbddaaFrame
import Derived.Test.YtplalcciodbddaaPerm
import Derived.Test.YtplalcciodbddaaD6
import Derived.Test.Ytplalcciodbddaa6v
namespace Go.Proofs.Ytplalcciodbddaa.lengthsValid
open Go.ChangeShapes Go.WideShapes Go.ChangeAt Go.RowKit
set_option linter.unusedSimpArgs false
set_option linter.unusedVariables false
set_option maxHeartbeats 1000000 in
theorem walk (A : Option Addr) (n c : Nat) (zs : List Int) (w : World) (f : RdL (Value.int .u8) w A n zs ∧ n ≤ c ∧ c ≤ maxLen ∧ ∀ z ∈ zs, (Lit.int .u8 z).wf = true) :
    Calls Try.prog 8 #[.slice A n c] w fun e w' => e = .returned (.bool true) ∧ Below w.heap.size w w' := by
  obtain ⟨hx, hc, hm, hz⟩ := f
  have HZ := Lib.hid (bytes_wf hz)
  clear hz
  by_cases hn : n ≤ 1048576
  · go_enter Try.func8, Try.ntmps8
    go_wp2_with fail
    refine (DrawLengthsValid_any A n c zs w hx HZ.out hc hn).mono ?_
    rintro x w2 ⟨A2, n2, c2, xs2, rfl, O2, hn2, B2⟩
    have hnc := O2.cap.1
    have hsz2 := B2.size
    have HL := O2.len
    go_wp2_with fail
    refine (impl_LengthsValid A2 n2 c2 xs2 w2 O2.rd (by omega)).mono ?_
    rintro x w3 ⟨rfl, m3, rfl⟩
    go_wp2_with fail
    refine (spec_LengthsValid A2 n2 c2 xs2 _ (O2.rd.drewN _) (by omega)).mono ?_
    rintro x w4 ⟨rfl, m4, rfl⟩
    cases hV : lengthsB xs2 with
    | false =>
      clear hV
      have OE : OwnL iv (w2.alloc (.cells #[] 3)) w.heap.size 3 (some ⟨w2.heap.size, 0, none⟩) 0 0 [] := OwnL.lit w2 [] (by simp) hsz2
      have OT := O2.rd.below (below_box w2 (.cells #[] 3)) (Nat.le_refl _)
      go_wp2_with (first
        | (at_builtin; refine wpList_appL _ rfl (.tmp 29) (.tmp 30) _ rfl w.heap.size 3 (.int .i64 0) 8 Try.underlying23 info_int rfl _ 0 0 [] rfl (OE.drewN (m3 + m4)) A2 n2 c2 xs2 rfl (OT.drewN (m3 + m4)) (fun _ => rfl) (by unfold maxLen; omega) (by omega) (by simp; omega) ?_; intro A5 c5 w5 O5 G5 L5; simp only [Nat.zero_add, List.nil_append] at O5; have hg5 := G5.size; simp at hg5; have O5' := O5.alloc (.cells #[.int .i64 0] 3))
        | (at_builtin; refine wpList_appL _ rfl (.tmp 31) (.tmp 32) _ rfl w.heap.size 3 (.int .i64 0) 8 Try.underlying23 info_int rfl A5 n2 c5 xs2 rfl O5' _ 1 1 [0] rfl (RdL.one w5 _ 0) (fun _ => rfl) (by unfold maxLen; omega) (by omega) (by simp; omega) ?_; intro A6 c6 w6 O6 G6 L6)
        | fail)
      have B5 : Below w.heap.size w w5 := bgrown (below_drewN (bbox B2 hsz2 (.cells #[] 3)) (m3 + m4)) G5 (by simp; omega) (fun g e => by injection e with e; subst e; exact hsz2)
      have B6 := bgrown (bbox B5 B5.size (.cells #[.int .i64 0] 3)) G6 (by simp; have := B5.size; omega) (fun g e => (O5.lt e).1)
      refine (impl_LengthsValid A6 (n2 + 1) c6 _ w6 O6.rd (by omega)).mono ?_
      rintro x w7 ⟨rfl, m7, rfl⟩
      rw [show lengthsB (xs2 ++ [0]) = false by simp [lengthsB, inB]]
      go_wp2_with fail
      refine (impl_LengthsValid none 0 0 [] _ (RdL.nil 0) (by omega)).mono ?_
      rintro x w8 ⟨rfl, m8, rfl⟩
      rw [show lengthsB [] = true from rfl]
      go_wp2_with fail
      refine (alive_any _).mono ?_
      rintro x w9 ⟨rfl, b9⟩
      go_wp2
      go_ret
      exact ⟨rfl, bstep (below_drewN B6 (m7 + m8)) b9⟩
    | true =>
      have HV := Lib.hid hV; clear hV
      by_cases hn0 : n2 = 0
      · subst hn0
        have OE : OwnL iv (w2.alloc (.cells #[] 3)) w.heap.size 3 (some ⟨w2.heap.size, 0, none⟩) 0 0 [] := OwnL.lit w2 [] (by simp) hsz2
        have OT := O2.rd.below (below_box w2 (.cells #[] 3)) (Nat.le_refl _)
        go_wp2_with (first
          | (at_builtin; refine wpList_appL _ rfl (.tmp 29) (.tmp 30) _ rfl w.heap.size 3 (.int .i64 0) 8 Try.underlying23 info_int rfl _ 0 0 [] rfl (OE.drewN (m3 + m4)) A2 0 c2 xs2 rfl (OT.drewN (m3 + m4)) (fun _ => rfl) (by unfold maxLen; omega) (by omega) (by simp; omega) ?_; intro A5 c5 w5 O5 G5 L5; simp only [Nat.zero_add, List.nil_append] at O5; have hg5 := G5.size; simp at hg5; have O5' := O5.alloc (.cells #[.int .i64 0] 3))
          | (at_builtin; refine wpList_appL _ rfl (.tmp 31) (.tmp 32) _ rfl w.heap.size 3 (.int .i64 0) 8 Try.underlying23 info_int rfl A5 0 c5 xs2 rfl O5' _ 1 1 [0] rfl (RdL.one w5 _ 0) (fun _ => rfl) (by unfold maxLen; omega) (by omega) (by simp; omega) ?_; intro A6 c6 w6 O6 G6 L6)
          | fail)
        have B5 : Below w.heap.size w w5 := bgrown (below_drewN (bbox B2 hsz2 (.cells #[] 3)) (m3 + m4)) G5 (by simp; omega) (fun g e => by injection e with e; subst e; exact hsz2)
        have B6 := bgrown (bbox B5 B5.size (.cells #[.int .i64 0] 3)) G6 (by simp; have := B5.size; omega) (fun g e => (O5.lt e).1)
        refine (impl_LengthsValid A6 (0 + 1) c6 _ w6 O6.rd (by omega)).mono ?_
        rintro x w7 ⟨rfl, m7, rfl⟩
        rw [show lengthsB (xs2 ++ [0]) = false by simp [lengthsB, inB]]
        go_wp2_with fail
        refine (impl_LengthsValid none 0 0 [] _ (RdL.nil 0) (by omega)).mono ?_
        rintro x w8 ⟨rfl, m8, rfl⟩
        rw [show lengthsB [] = true from rfl]
        go_wp2_with fail
        refine (alive_any _).mono ?_
        rintro x w9 ⟨rfl, b9⟩
        go_wp2
        go_ret
        exact ⟨rfl, bstep (below_drewN B6 (m7 + m8)) b9⟩
      · have hn0z : ((n2 : Int) == 0) = false := by rw [beq_eq_false_iff_ne]; omega
        have HD : Hid (lengthsB (xs2.drop 1) = true) := by
          have h1 := HV.out
          unfold lengthsB at h1
          show lengthsB (xs2.drop 1) = true
          unfold lengthsB
          simp only [Bool.and_eq_true, List.all_eq_true, decide_eq_true_eq, List.length_drop] at h1 ⊢
          exact ⟨fun x hx => h1.1 x (List.mem_of_mem_drop hx), by omega⟩
        obtain ⟨ga, ya, rfl, hBa, hga, HYa, gca, gfa⟩ := O2.at (k := 0) (by omega)
        have RD := RdL.drop (k := 1) O2.rd (by omega)
        by_cases hc1 : c2 = 1
        · subst hc1
          obtain rfl : n2 = 1 := by omega
          go_wp2_with fail
          refine (impl_LengthsValid _ _ _ (xs2.drop 1) _ ((RdL.empty (by rw [List.length_drop, HL.out]))) (by omega)).mono ?_
          rintro x w4b ⟨rfl, m4b, rfl⟩
          rw [HD.out]
          have OE : OwnL iv (w2.alloc (.cells #[] 3)) w.heap.size 3 (some ⟨w2.heap.size, 0, none⟩) 0 0 [] := OwnL.lit w2 [] (by simp) hsz2
          have OT := O2.rd.below (below_box w2 (.cells #[] 3)) (Nat.le_refl _)
          go_wp2_with (first
            | (at_builtin; refine wpList_appL _ rfl (.tmp 29) (.tmp 30) _ rfl w.heap.size 3 (.int .i64 0) 8 Try.underlying23 info_int rfl _ 0 0 [] rfl (OE.drewN (m3 + m4 + m4b)) _ 1 1 xs2 rfl (OT.drewN (m3 + m4 + m4b)) (fun _ => rfl) (by unfold maxLen; omega) (by omega) (by simp; omega) ?_; intro A5 c5 w5 O5 G5 L5; simp only [Nat.zero_add, List.nil_append] at O5; have hg5 := G5.size; simp at hg5; have O5' := O5.alloc (.cells #[.int .i64 0] 3))
            | (at_builtin; refine wpList_appL _ rfl (.tmp 31) (.tmp 32) _ rfl w.heap.size 3 (.int .i64 0) 8 Try.underlying23 info_int rfl A5 1 c5 xs2 rfl O5' _ 1 1 [0] rfl (RdL.one w5 _ 0) (fun _ => rfl) (by unfold maxLen; omega) (by omega) (by simp; omega) ?_; intro A6 c6 w6 O6 G6 L6)
            | fail)
          have B5 : Below w.heap.size w w5 := bgrown (below_drewN (bbox B2 hsz2 (.cells #[] 3)) (m3 + m4 + m4b)) G5 (by simp; omega) (fun g e => by injection e with e; subst e; exact hsz2)
          have B6 := bgrown (bbox B5 B5.size (.cells #[.int .i64 0] 3)) G6 (by simp; have := B5.size; omega) (fun g e => (O5.lt e).1)
          refine (impl_LengthsValid A6 (1 + 1) c6 _ w6 O6.rd (by omega)).mono ?_
          rintro x w7 ⟨rfl, m7, rfl⟩
          rw [show lengthsB (xs2 ++ [0]) = false by simp [lengthsB, inB]]
          go_wp2_with fail
          refine (impl_LengthsValid none 0 0 [] _ (RdL.nil 0) (by omega)).mono ?_
          rintro x w8 ⟨rfl, m8, rfl⟩
          rw [show lengthsB [] = true from rfl]
          go_wp2_with fail
          refine (alive_any _).mono ?_
          rintro x w9 ⟨rfl, b9⟩
          go_wp2
          go_ret
          exact ⟨rfl, bstep (below_drewN B6 (m7 + m8)) b9⟩
        · go_wp2_with fail
          refine (impl_LengthsValid _ _ _ (xs2.drop 1) _ (RD.drewN _) (by omega)).mono ?_
          rintro x w4b ⟨rfl, m4b, rfl⟩
          rw [HD.out]
          have OE : OwnL iv (w2.alloc (.cells #[] 3)) w.heap.size 3 (some ⟨w2.heap.size, 0, none⟩) 0 0 [] := OwnL.lit w2 [] (by simp) hsz2
          have OT := O2.rd.below (below_box w2 (.cells #[] 3)) (Nat.le_refl _)
          go_wp2_with (first
            | (at_builtin; refine wpList_appL _ rfl (.tmp 29) (.tmp 30) _ rfl w.heap.size 3 (.int .i64 0) 8 Try.underlying23 info_int rfl _ 0 0 [] rfl (OE.drewN (m3 + m4 + m4b)) _ n2 c2 xs2 rfl (OT.drewN (m3 + m4 + m4b)) (fun _ => rfl) (by unfold maxLen; omega) (by omega) (by simp; omega) ?_; intro A5 c5 w5 O5 G5 L5; simp only [Nat.zero_add, List.nil_append] at O5; have hg5 := G5.size; simp at hg5; have O5' := O5.alloc (.cells #[.int .i64 0] 3))
            | (at_builtin; refine wpList_appL _ rfl (.tmp 31) (.tmp 32) _ rfl w.heap.size 3 (.int .i64 0) 8 Try.underlying23 info_int rfl A5 n2 c5 xs2 rfl O5' _ 1 1 [0] rfl (RdL.one w5 _ 0) (fun _ => rfl) (by unfold maxLen; omega) (by omega) (by simp; omega) ?_; intro A6 c6 w6 O6 G6 L6)
            | fail)
          have B5 : Below w.heap.size w w5 := bgrown (below_drewN (bbox B2 hsz2 (.cells #[] 3)) (m3 + m4 + m4b)) G5 (by simp; omega) (fun g e => by injection e with e; subst e; exact hsz2)
          have B6 := bgrown (bbox B5 B5.size (.cells #[.int .i64 0] 3)) G6 (by simp; have := B5.size; omega) (fun g e => (O5.lt e).1)
          refine (impl_LengthsValid A6 (n2 + 1) c6 _ w6 O6.rd (by omega)).mono ?_
          rintro x w7 ⟨rfl, m7, rfl⟩
          rw [show lengthsB (xs2 ++ [0]) = false by simp [lengthsB, inB]]
          go_wp2_with fail
          refine (impl_LengthsValid none 0 0 [] _ (RdL.nil 0) (by omega)).mono ?_
          rintro x w8 ⟨rfl, m8, rfl⟩
          rw [show lengthsB [] = true from rfl]
          go_wp2_with fail
          refine (alive_any _).mono ?_
          rintro x w9 ⟨rfl, b9⟩
          go_wp2
          go_ret
          exact ⟨rfl, bstep (below_drewN B6 (m7 + m8)) b9⟩
  · go_enter Try.func8, Try.ntmps8
    go_wp2
    go_ret
    exact ⟨rfl, Below.refl _ _⟩
set_option maxRecDepth 100000 in
theorem lifted (os : Os) (started : os.Started) (H : Type) (enc : TypeId × Value → H) :
    ReturnsInHanded {} Try.checked os 8 .any (Rows.fnLengthsValidSpec.pre6 enc Try.prog Try.f8 Rows.fnLengthsValidRow.domain false) (Rows.fnLengthsValidSpec.post enc Try.prog Try.f8 false true false false) := by
  refine returnsInHanded_of_change (C := Try.checked) own started (by kernel_rfl) Try.func8
    (ChangeSpec.witness6 (enc := enc) (C := Try.checked) false ⟨#[], #[.slice none 0 0], []⟩ 8 (by kernel_rfl) (by kernel_rfl) (by kernel_rfl) (by kernel_rfl)) ?_
  intro W base args ds gs before hval0 hW hcnd _
  have hval : ∀ (j : Nat) t v, Try.f8.params[j]? = some t → args[j]? = some v → Value.okWide Try.prog W .any base t v := hval0
  have hW' := hW
  obtain ⟨p, q, hA0, hV, rfl, hfz, hnd⟩ := hW
  have hA : DataW.TrodAll enc Try.prog W 0 (fun _ => true) true Try.f8.params.toList args.toList ds p := hA0
  rw [Try.params8] at hA hval
  obtain ⟨v0, vs0, d0, ds0, p0, q0, hargs, rfl, rfl, k0, r0⟩ := trodAll_cons hA
  obtain ⟨rfl, rfl, rfl⟩ := trodAll_nil r0
  obtain rfl : args = #[v0] := by cases args; simp_all
  obtain ⟨rfl, rfl⟩ := trodVars_none hV
  have lt0 : ∀ x ∈ p0, x.block < W.heap.size := by obtain ⟨m, hm⟩ := k0; exact DataW.trod_lt m _ _ _ hm
  obtain ⟨a0, n0, c0, rfl⟩ := okWide_slice Try.underlying27 (hval 0 27 v0 rfl rfl)
  obtain ⟨z0, f0⟩ := open_bytes (W := W) k0
  clear hA0 hval0
  refine (walk a0 n0 c0 z0 W f0).mono fun e W' ⟨he, bel⟩ => ?_
  subst he
  exact ⟨_, rfl, _, _, _, [], _, [], hW', trodAll_mk1 (shut_bool Try.underlying4 _), (trodAll_cons_mk (Below.trod laidOut (by kernel_rfl) (of_decide_eq_true (by kernel_rfl)) k0 bel lt0) trodAll_mk0), rfl, bel.frame _, fun h => by cases h⟩
theorem closed : joinedFacts Try.pinned.checked.prog 8 Try.f8 Rows.fnLengthsValidSpec Rows.fnLengthsValidRow = true := by
  unfold joinedFacts
  repeat' (with_reducible refine Bool.and_eq_true_iff.2 ⟨?_, ?_⟩)
  · kernel_rfl
  · exact laidOut
  · kernel_rfl
  · kernel_rfl
  · kernel_rfl
  · kernel_rfl
  · kernel_rfl
  · kernel_rfl
  · kernel_rfl
  · kernel_rfl
  · kernel_rfl
  · kernel_rfl
  · kernel_rfl
  · kernel_rfl
  · kernel_rfl
  · kernel_rfl
  · kernel_rfl
  · kernel_rfl
  · kernel_rfl
  · kernel_rfl
  · kernel_rfl
  · kernel_rfl
  · kernel_rfl
  · kernel_rfl
  · kernel_rfl
  · exact heavy.1
  · exact heavy.2.1
  · exact heavy.2.2
  · kernel_rfl
  · kernel_rfl
  · kernel_rfl
  · kernel_rfl
theorem over : Rows.fnLengthsValidRow.holds Try.pinned (OpenSpec.ofChange Rows.fnLengthsValidSpec) :=
  OpenClaim.holds_of_wide 8 Try.f8 rfl rfl rfl rfl rfl rfl rfl ⟨rfl, rfl, rfl, rfl, rfl⟩ rfl rfl rfl rfl rfl (by kernel_rfl) Try.func8 closed
    (of_decide_eq_true (by kernel_rfl)) (by unfold Func.isWrapper; first | (rw [if_pos (by decide +kernel)]; kernel_rfl) | (rw [if_neg (by decide +kernel)]; exact ⟨rfl, rfl⟩))
    (fun os started H enc _ => lifted os started H enc)
theorem proved : Rows.FnLengthsValidSaid := over
#print axioms proved
end Go.Proofs.Ytplalcciodbddaa.lengthsValid
