/- FnLoopRun returns true for every code. No condition. -/
import Derived.Test.YtiahpaakkijejaaFrame
import Derived.Test.Ytiahpaakkijejaa3q
import Derived.Test.Ytiahpaakkijejaa3sc
import Derived.Test.YtiahpaakkijejaaD3b
import Derived.Test.YtiahpaakkijejaaD3c
import Derived.Test.Ytiahpaakkijejaa3r
namespace Go.Proofs.Ytiahpaakkijejaa.loopRun
open Go.ChangeShapes Go.WideShapes Go.ChangeAt Go.RowKit
set_option linter.unusedSimpArgs false
set_option linter.unusedVariables false
set_option maxHeartbeats 800000 in
set_option maxRecDepth 100000 in
theorem walk (A : Option Addr) (n c : Nat) (zs : List Int) (w : World) (f : RdL (Value.int .u8) w A n zs ∧ n ≤ c ∧ c ≤ maxLen ∧ ∀ z ∈ zs, (Lit.int .u8 z).wf = true) :
    Calls Try.prog 7 #[.slice A n c] w fun e w' => e = .returned (.bool true) ∧ Below w.heap.size w w' := by
  obtain ⟨hx, hc, hm, hz⟩ := f
  have HZ := Lib.hid (bytes_wf hz)
  clear hz
  by_cases hn : n ≤ 1048576
  · go_enter Try.func7, Try.ntmps7
    go_wp2_with fail
    refine (DrawLoopRun_any A n c zs w hx HZ.out hc hn).mono ?_
    rintro x w1 ⟨l, A1, n1, c1, bs, rfl, HB, hn1, O1, b1⟩
    have hX := OwnL.rd O1
    have hcap1 := (OwnL.cap O1).1
    have HLX := hX.len
    clear O1
    go_wp2_with fail
    refine (impl_LoopRun l A1 n1 c1 bs w1 hX hcap1 (by omega)).mono ?_
    rintro x w2 ⟨A2, n2, c2, rfl, O2, b2⟩
    have B2 := bstep b1 b2
    have hX2 := hX.below b2 (Nat.le_refl _)
    have hY2 := OwnL.rd O2
    have hcap := (OwnL.cap O2).1
    have HLY := hY2.len
    clear O2
    obtain ⟨ys, HYS⟩ : ∃ ys, Hid (loopRunL l bs = ys) := ⟨_, rfl⟩
    have hn2 : n2 ≤ 1048576 := by have := lr_len l bs (by rw [HLX.out]; omega); rw [← HLY.out]; exact this
    rw [HYS.out] at hY2 HLY
    go_wp2_with fail
    refine (spec_LoopRun l A1 n1 c1 bs _ hX2 hcap1 (by omega)).mono ?_
    rintro x w3 ⟨A3, n3, c3, rfl, O3, b3⟩
    have B3 := bstep B2 b3
    have hX3 := hX2.below b3 (Nat.le_refl _)
    have hY3 := hY2.below b3 (Nat.le_refl _)
    have hZ3 := OwnL.rd O3
    clear O3
    rw [HYS.out] at hZ3
    obtain rfl : n2 = n3 := by rw [← hZ3.len.out, ← HLY.out]
    go_wp2_with fail
    refine (sameInts_any A2 A3 n2 n2 c2 c3 ys ys _ hY3 hZ3 (by omega) (by omega)).mono ?_
    rintro x w4 ⟨t4, rfl, h4, m4, rfl⟩
    obtain rfl := h4.out.2 rfl
    clear h4
    by_cases h0 : n2 = 0
    · subst h0
      go_wp2_with fail
      refine (alive_any _).mono ?_
      rintro x w6 ⟨rfl, b6⟩
      go_wp2
      go_ret
      exact ⟨rfl, bstep (below_drewN B3 _) b6⟩
    · have HF := Lib.hid (loop_facts HYS.out (by rw [HLY.out]; exact h0))
      have hn8 : n2 ≤ 8 := by have := HF.out.2.2.1; rw [HLY.out] at this; exact this
      obtain rfl : l = (n2 : Int) := by have := HF.out.1; rw [HLY.out] at this; exact this
      have hX4 := hX3.drewN m4
      have hY4 := hY3.drewN m4
      have B4 := below_drewN B3 m4
      obtain ⟨w5, HW5⟩ : ∃ w5, Hid (w5 = w3.drewN m4) := ⟨_, rfl⟩
      rw [← HW5.out] at hX4 hY4 B4
      clear hX3 hY3 hX2 hY2 hX hZ3
      have z0 : ((n2 : Int) == 0) = false := by simp; omega
      go_wp2_with fail
      try rw [z0]
      rw [← HW5.out]
      go_loopg [6] n1 (fun g s wr => ∃ k : Nat, k ≤ n1 ∧ g = n1 - k ∧ s = .int .i64 k ∧ Below w5.heap.size w5 wr)
      case atStart => exact ⟨0, Nat.zero_le _, rfl, rfl, Below.refl _ _⟩
      case round =>
        obtain ⟨k, hk, rfl, rfl, hbel⟩ := hrel
        by_cases hlt : k < n1
        · have hXr := hX4.below hbel (Nat.le_refl _)
          have hsz := hbel.size
          have OE : OwnL bv (wr.alloc (.cells #[] 4)) wr.heap.size 4 (some ⟨wr.heap.size, 0, none⟩) 0 0 [] := OwnL.lit wr [] (by simp) (Nat.le_refl _)
          go_wp2_with (at_builtin; refine wpList_appLN (emb := bv) _ rfl (.tmp 35) (.tmp 36) _ rfl wr.heap.size 4 (.bool false) 1 Try.underlying31 info_bool rfl _ 0 0 [] rfl OE A1 n1 c1 bs rfl (hXr.below (bbox (Below.refl _ _) (Nat.le_refl _) _) (Nat.le_refl _)) (fun _ => rfl) n1 (by omega) bs rfl (by unfold maxLen; omega) (by omega) (by simp) ?_; intro A6 c6 w6 O6 G6 L6; have B6 := bgrown (bbox hbel hbel.size (.cells #[] 4)) G6 (by simp; omega) (by intro g hh; rw [blk_some] at hh; injection hh with hh; omega); obtain ⟨ga, ya, hA6, hBa, hga, HYa, gca, gfa⟩ := O6.at (k := k) hlt; subst hA6)
          have hcap6 := (OwnL.cap O6).1
          have O7 := OwnL.set O6 k (!ya)
          refine (impl_LoopRun n2 _ n1 c6 (bs.set k (!ya)) _ (OwnL.rd O7) hcap6 (by omega)).mono ?_
          rintro x w8 ⟨A8, n8, c8, rfl, O8, b8⟩
          have B8 := bstep (B6.setCell (by show w5.heap.size ≤ ga; omega) _) b8
          have hY8 := hY4.below B8 (Nat.le_refl _)
          have hZ8 := OwnL.rd O8
          clear O8
          have hl8 := hZ8.len
          have hn8' : n8 ≤ 1048576 := by have := lr_len n2 (bs.set k (!ya)) (by rw [List.length_set, HLX.out]; omega); rw [← hl8.out]; exact this
          have HXK : Hid (bs[k]? = some ya) := HYa.out
          go_wp2_with fail
          refine (sameInts_any A8 A2 n8 n2 c8 c2 _ ys _ hZ8 hY8 (by omega) (by omega)).mono ?_
          rintro x w9 ⟨t9, rfl, h9, m9, rfl⟩
          obtain rfl : t9 = false := by
            cases t9 with
            | false => rfl
            | true => exact absurd (h9.out.1 rfl) (HF.out.2.2.2 k ya HXK.out)
          clear h9
          go_wp2
          go_roundg (n1 - (k + 1))
          case rel => exact ⟨k + 1, by omega, rfl, by go_num, below_drewN B8 _⟩
          case measure => omega
        · have hYr := hY4.below hbel (Nat.le_refl _)
          have BR := bstep B4 hbel
          go_wp2_with fail
          refine (whole_yes A2 n2 c2 ys _ hYr hcap (by omega) HF.out.2.1).mono ?_
          rintro x w9 ⟨rfl, m9, rfl⟩
          go_wp2
          go_ret
          exact ⟨rfl, below_drewN BR _⟩
  · go_enter Try.func7, Try.ntmps7
    go_wp2
    go_ret
    exact ⟨rfl, Below.refl _ _⟩
set_option maxRecDepth 100000 in
theorem lifted (os : Os) (started : os.Started) (H : Type) (enc : TypeId × Value → H) :
    ReturnsInHanded {} Try.checked os 7 .any (Rows.fnLoopRunSpec.pre6 enc Try.prog Try.f7 Rows.fnLoopRunRow.domain false) (Rows.fnLoopRunSpec.post enc Try.prog Try.f7 false true false false) := by
  refine returnsInHanded_of_change (C := Try.checked) own started (by kernel_rfl) Try.func7
    (ChangeSpec.witness6 (enc := enc) (C := Try.checked) false ⟨#[], #[.slice none 0 0], []⟩ 8 (by kernel_rfl) (by kernel_rfl) (by kernel_rfl) (by kernel_rfl)) ?_
  intro W base args ds gs before hval0 hW hcnd _
  have hval : ∀ (j : Nat) t v, Try.f7.params[j]? = some t → args[j]? = some v → Value.okWide Try.prog W .any base t v := hval0
  have hW' := hW
  obtain ⟨p, q, hA0, hV, rfl, hfz, hnd⟩ := hW
  have hA : DataW.TrodAll enc Try.prog W 0 (fun _ => true) true Try.f7.params.toList args.toList ds p := hA0
  rw [Try.params7] at hA hval
  obtain ⟨v0, vs0, d0, ds0, p0, q0, hargs, rfl, rfl, k0, r0⟩ := trodAll_cons hA
  obtain ⟨rfl, rfl, rfl⟩ := trodAll_nil r0
  obtain rfl : args = #[v0] := by cases args; simp_all
  obtain ⟨rfl, rfl⟩ := trodVars_none hV
  have lt0 : ∀ x ∈ p0, x.block < W.heap.size := by obtain ⟨m, hm⟩ := k0; exact DataW.trod_lt m _ _ _ hm
  obtain ⟨a0, n0, c0, rfl⟩ := okWide_slice Try.underlying22 (hval 0 22 v0 rfl rfl)
  obtain ⟨z0, f0⟩ := open_bytes (W := W) k0
  clear hA0 hval0
  refine (walk a0 n0 c0 z0 W f0).mono fun e W' ⟨he, bel⟩ => ?_
  subst he
  exact ⟨_, rfl, _, _, _, [], _, [], hW', trodAll_mk1 (shut_bool Try.underlying4 _), (trodAll_cons_mk (Below.trod laidOut (by kernel_rfl) (of_decide_eq_true (by kernel_rfl)) k0 bel lt0) trodAll_mk0), rfl, bel.frame _, fun h => by cases h⟩
theorem closed : joinedFacts Try.pinned.checked.prog 7 Try.f7 Rows.fnLoopRunSpec Rows.fnLoopRunRow = true := by
  unfold joinedFacts
  repeat' (with_reducible refine Bool.and_eq_true_iff.2 ⟨?_, ?_⟩)
  · kernel_rfl
  · exact laidOut
  · kernel_rfl
  · kernel_rfl
  · kernel_rfl
  · kernel_rfl
  · kernel_rfl
  · kernel_rfl
  · kernel_rfl
  · kernel_rfl
  · kernel_rfl
  · kernel_rfl
  · kernel_rfl
  · kernel_rfl
  · kernel_rfl
  · kernel_rfl
  · kernel_rfl
  · kernel_rfl
  · kernel_rfl
  · kernel_rfl
  · kernel_rfl
  · kernel_rfl
  · kernel_rfl
  · kernel_rfl
  · kernel_rfl
  · exact heavy.1
  · exact heavy.2.1
  · exact heavy.2.2
  · kernel_rfl
  · kernel_rfl
  · kernel_rfl
  · kernel_rfl
theorem over : Rows.fnLoopRunRow.holds Try.pinned (OpenSpec.ofChange Rows.fnLoopRunSpec) :=
  OpenClaim.holds_of_wide 7 Try.f7 rfl rfl rfl rfl rfl rfl rfl ⟨rfl, rfl, rfl, rfl, rfl⟩ rfl rfl rfl rfl rfl (by kernel_rfl) Try.func7 closed
    (of_decide_eq_true (by kernel_rfl)) (by unfold Func.isWrapper; first | (rw [if_pos (by decide +kernel)]; kernel_rfl) | (rw [if_neg (by decide +kernel)]; exact ⟨rfl, rfl⟩))
    (fun os started H enc _ => lifted os started H enc)
theorem proved : Rows.FnLoopRunSaid := over
#print axioms proved
end Go.Proofs.Ytiahpaakkijejaa.loopRun
