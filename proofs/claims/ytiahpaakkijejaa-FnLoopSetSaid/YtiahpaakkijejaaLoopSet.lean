/- FnLoopSet returns true for every code. No condition. -/
import Derived.Test.YtiahpaakkijejaaFrame
import Derived.Test.Ytiahpaakkijejaa3q
import Derived.Test.Ytiahpaakkijejaa3sc
import Derived.Test.YtiahpaakkijejaaD3b
import Derived.Test.Ytiahpaakkijejaa3k
namespace Go.Proofs.Ytiahpaakkijejaa.loopSet
open Go.ChangeShapes Go.WideShapes Go.ChangeAt Go.RowKit
set_option linter.unusedSimpArgs false
set_option linter.unusedVariables false
theorem loop_bad {xs : List Int} {ys : List Bool} (h : loopSetL xs = (ys, false)) : ys = [] := by
  by_cases hc : linesB xs.length = true ∧ PermOk xs
  · rw [ls_yes rfl hc.1 rfl hc.2] at h; injection h with h1 h2; cases h2
  · rw [ls_no hc] at h; injection h with h1 h2; exact h1.symm
theorem loop_done {xs : List Int} {ys : List Bool} (h : loopSetL xs = (ys, true)) : loopRunL (xs.length : Int) ys = xs ∧ ys.length ≤ 20 ∧ xs.length ≤ 8 := by
  by_cases hc : linesB xs.length = true ∧ PermOk xs
  · obtain ⟨hb, hp⟩ := hc
    have key : ∀ (n d : Nat), xs.length = n → lvOf n = d → n = 2 ^ (d + 1) → d ≤ 2 → lManyI n = (manyD d : Int) → loopRunL (xs.length : Int) ys = xs ∧ ys.length = manyD d := by
      intro n d hl hlv hn hd hm
      rw [ls_yes hl (by rw [← hl]; exact hb) hlv hp] at h
      injection h with h1 h2
      subst h1
      have hlen : lManyI (xs.length : Int) = ((loopL d (pF xs)).length : Int) := by rw [loopL_len, hl, hm]
      refine ⟨?_, loopL_len d _⟩
      rw [lr_yes hlen, hl, hlv]
      have hi : IsP (2 ^ (d + 1)) (pF xs) := by rw [← hn]; exact perm_isP hp hl
      have e : runL d (loopL d (pF xs)) = permN n (pF xs) := by
        unfold runL permN
        rw [← hn]
        apply List.map_congr_left
        intro k hk
        have hk' : k < 2 ^ (d + 1) := by rw [← hn]; exact List.mem_range.1 hk
        rw [runF_congr d (fS (loopL d (pF xs))) (setF d (pF xs)) k hk' (fun x hx => fS_at (loopL_at hx)), setF_run d hd _ hi k hk']
      rw [e]
      exact (perm_eq hp hl).symm
    rcases lines_many xs.length with ⟨-, h2⟩ | ⟨-, h3, -⟩
    · rw [hb] at h2; cases h2
    · rcases h3 with h3 | h3 | h3
      · have := key 2 0 (by omega) rfl rfl (by omega) rfl
        have h5 : manyD 0 = 1 := rfl
        exact ⟨this.1, by omega, by omega⟩
      · have := key 4 1 (by omega) rfl rfl (by omega) rfl
        have h5 : manyD 1 = 6 := rfl
        exact ⟨this.1, by omega, by omega⟩
      · have := key 8 2 (by omega) rfl rfl (by omega) rfl
        have h5 : manyD 2 = 20 := rfl
        exact ⟨this.1, by omega, by omega⟩
  · rw [ls_no hc] at h; injection h with h1 h2; cases h2
set_option maxHeartbeats 800000 in
set_option maxRecDepth 100000 in
theorem walk (A : Option Addr) (n c : Nat) (zs : List Int) (w : World) (f : RdL (Value.int .u8) w A n zs ∧ n ≤ c ∧ c ≤ maxLen ∧ ∀ z ∈ zs, (Lit.int .u8 z).wf = true) :
    Calls Try.prog 12 #[.slice A n c] w fun e w' => e = .returned (.bool true) ∧ Below w.heap.size w w' := by
  obtain ⟨hx, hc, hm, hz⟩ := f
  have HZ := Lib.hid (bytes_wf hz)
  clear hz
  by_cases hn : n ≤ 1048576
  · go_enter Try.func12, Try.ntmps12
    go_wp2_with fail
    refine (DrawLoopSet_any A n c zs w hx HZ.out hc hn).mono ?_
    rintro x w1 ⟨A1, n1, c1, xs, rfl, hn1, O1, b1⟩
    have hX := OwnL.rd O1
    have hcap := (OwnL.cap O1).1
    have HLX := hX.len
    clear O1
    go_wp2_with fail
    refine (impl_LoopSet A1 n1 c1 xs w1 hX hcap (by omega)).mono ?_
    rintro x w2 ⟨A2, n2, c2, ys, t, rfl, HP, O2, b2⟩
    have B2 := bstep b1 b2
    have hX2 := hX.below b2 (Nat.le_refl _)
    have hY2 := OwnL.rd O2
    have hcap2 := (OwnL.cap O2).1
    have HLY := hY2.len
    clear O2
    have hn2 : n2 ≤ 1048576 := by have h := ls_len xs (by rw [HLX.out]; omega); rw [HP.out] at h; rw [← HLY.out]; exact h
    go_wp2_with fail
    refine (spec_LoopSet A1 n1 c1 xs _ hX2 hcap (by omega)).mono ?_
    rintro x w3 ⟨A3, n3, c3, ys3, t3, rfl, HQ, O3, b3⟩
    have HE : Hid (ys3 = ys ∧ t3 = t) := by
      have h := HQ.out
      rw [HP.out] at h
      injection h with h1 h2
      exact ⟨h1.symm, h2.symm⟩
    clear HQ
    obtain ⟨rfl, rfl⟩ := HE.out
    clear HE
    have B3 := bstep B2 b3
    have hX3 := hX2.below b3 (Nat.le_refl _)
    have hY3 := hY2.below b3 (Nat.le_refl _)
    have hZ3 := OwnL.rd O3
    clear O3
    obtain rfl : n2 = n3 := by rw [← hZ3.len.out, ← HLY.out]
    go_wp2_with fail
    refine (sameBools_any A2 A3 n2 n2 c2 c3 ys3 ys3 _ hY3 hZ3 (by omega) (by omega)).mono ?_
    rintro x w4 ⟨t4, rfl, h4, m4, rfl⟩
    obtain rfl := h4.out.2 rfl
    clear h4
    cases t3 with
    | false =>
      have h0 : n2 = 0 := by have := loop_bad HP.out; rw [← HLY.out, this]; rfl
      subst h0
      go_wp2_with fail
      refine (alive_any _).mono ?_
      rintro x w6 ⟨rfl, b6⟩
      go_wp2
      go_ret
      exact ⟨rfl, bstep (below_drewN B3 m4) b6⟩
    | true =>
      have HF := Lib.hid (loop_done HP.out)
      have HR : Hid (loopRunL (n1 : Int) ys3 = xs) := by
        have h := HF.out.1
        rw [HLX.out] at h
        exact h
      go_wp2_with fail
      refine (impl_LoopRun (n1 : Int) A2 n2 c2 ys3 _ (hY3.drewN m4) hcap2 (by omega)).mono ?_
      rintro x w6 ⟨A6, n6, c6, rfl, O6, b6⟩
      rw [HR.out] at O6
      have B6 := bstep (below_drewN B3 m4) b6
      have hX6 := (hX3.drewN m4).below b6 (Nat.le_refl _)
      have hW6 := OwnL.rd O6
      clear O6
      obtain rfl : n1 = n6 := by rw [← hW6.len.out, ← HLX.out]
      go_wp2_with fail
      refine (sameInts_any A6 A1 n1 n1 c6 c1 xs xs _ hW6 hX6 (by omega) (by omega)).mono ?_
      rintro x w7 ⟨t7, rfl, h7, m7, rfl⟩
      obtain rfl := h7.out.2 rfl
      clear h7
      go_wp2
      go_ret
      exact ⟨rfl, below_drewN B6 _⟩
  · go_enter Try.func12, Try.ntmps12
    go_wp2
    go_ret
    exact ⟨rfl, Below.refl _ _⟩
set_option maxRecDepth 100000 in
theorem lifted (os : Os) (started : os.Started) (H : Type) (enc : TypeId × Value → H) :
    ReturnsInHanded {} Try.checked os 12 .any (Rows.fnLoopSetSpec.pre6 enc Try.prog Try.f12 Rows.fnLoopSetRow.domain false) (Rows.fnLoopSetSpec.post enc Try.prog Try.f12 false true false false) := by
  refine returnsInHanded_of_change (C := Try.checked) own started (by kernel_rfl) Try.func12
    (ChangeSpec.witness6 (enc := enc) (C := Try.checked) false ⟨#[], #[.slice none 0 0], []⟩ 8 (by kernel_rfl) (by kernel_rfl) (by kernel_rfl) (by kernel_rfl)) ?_
  intro W base args ds gs before hval0 hW hcnd _
  have hval : ∀ (j : Nat) t v, Try.f12.params[j]? = some t → args[j]? = some v → Value.okWide Try.prog W .any base t v := hval0
  have hW' := hW
  obtain ⟨p, q, hA0, hV, rfl, hfz, hnd⟩ := hW
  have hA : DataW.TrodAll enc Try.prog W 0 (fun _ => true) true Try.f12.params.toList args.toList ds p := hA0
  rw [Try.params12] at hA hval
  obtain ⟨v0, vs0, d0, ds0, p0, q0, hargs, rfl, rfl, k0, r0⟩ := trodAll_cons hA
  obtain ⟨rfl, rfl, rfl⟩ := trodAll_nil r0
  obtain rfl : args = #[v0] := by cases args; simp_all
  obtain ⟨rfl, rfl⟩ := trodVars_none hV
  have lt0 : ∀ x ∈ p0, x.block < W.heap.size := by obtain ⟨m, hm⟩ := k0; exact DataW.trod_lt m _ _ _ hm
  obtain ⟨a0, n0, c0, rfl⟩ := okWide_slice Try.underlying22 (hval 0 22 v0 rfl rfl)
  obtain ⟨z0, f0⟩ := open_bytes (W := W) k0
  clear hA0 hval0
  refine (walk a0 n0 c0 z0 W f0).mono fun e W' ⟨he, bel⟩ => ?_
  subst he
  exact ⟨_, rfl, _, _, _, [], _, [], hW', trodAll_mk1 (shut_bool Try.underlying4 _), (trodAll_cons_mk (Below.trod laidOut (by kernel_rfl) (of_decide_eq_true (by kernel_rfl)) k0 bel lt0) trodAll_mk0), rfl, bel.frame _, fun h => by cases h⟩
theorem closed : joinedFacts Try.pinned.checked.prog 12 Try.f12 Rows.fnLoopSetSpec Rows.fnLoopSetRow = true := by
  unfold joinedFacts
  repeat' (with_reducible refine Bool.and_eq_true_iff.2 ⟨?_, ?_⟩)
  · kernel_rfl
  · exact laidOut
  · kernel_rfl
  · kernel_rfl
  · kernel_rfl
  · kernel_rfl
  · kernel_rfl
  · kernel_rfl
  · kernel_rfl
  · kernel_rfl
  · kernel_rfl
  · kernel_rfl
  · kernel_rfl
  · kernel_rfl
  · kernel_rfl
  · kernel_rfl
  · kernel_rfl
  · kernel_rfl
  · kernel_rfl
  · kernel_rfl
  · kernel_rfl
  · kernel_rfl
  · kernel_rfl
  · kernel_rfl
  · kernel_rfl
  · exact heavy.1
  · exact heavy.2.1
  · exact heavy.2.2
  · kernel_rfl
  · kernel_rfl
  · kernel_rfl
  · kernel_rfl
theorem over : Rows.fnLoopSetRow.holds Try.pinned (OpenSpec.ofChange Rows.fnLoopSetSpec) :=
  OpenClaim.holds_of_wide 12 Try.f12 rfl rfl rfl rfl rfl rfl rfl ⟨rfl, rfl, rfl, rfl, rfl⟩ rfl rfl rfl rfl rfl (by kernel_rfl) Try.func12 closed
    (of_decide_eq_true (by kernel_rfl)) (by unfold Func.isWrapper; first | (rw [if_pos (by decide +kernel)]; kernel_rfl) | (rw [if_neg (by decide +kernel)]; exact ⟨rfl, rfl⟩))
    (fun os started H enc _ => lifted os started H enc)
theorem proved : Rows.FnLoopSetSaid := over
#print axioms proved
end Go.Proofs.Ytiahpaakkijejaa.loopSet
