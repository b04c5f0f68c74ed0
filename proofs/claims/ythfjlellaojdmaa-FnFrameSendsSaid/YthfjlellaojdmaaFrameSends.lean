/- FnFrameSends returns true for every code. No condition. -/
import Derived.Test.YthfjlellaojdmaaFrame
import Derived.Test.YthfjlellaojdmaaPerm
import Derived.Test.Ythfjlellaojdmaa5z
import Derived.Test.Ythfjlellaojdmaa5s
import Derived.Test.Ythfjlellaojdmaa5o2
import Derived.Test.Ythfjlellaojdmaa5yf
namespace Go.Proofs.Ythfjlellaojdmaa.frameSends
open Go.ChangeShapes Go.WideShapes Go.ChangeAt Go.RowKit
set_option linter.unusedSimpArgs false
set_option linter.unusedVariables false
theorem smt_take {rows : List (List Int)} (h : SmT rows) (k : Nat) : SmT (rows.take k) :=
  ⟨Nat.le_trans (by rw [List.length_take]; omega) h.1, Nat.le_trans (flat_le rows k) h.2⟩
theorem smt_drop {rows : List (List Int)} (h : SmT rows) (k : Nat) : SmT (rows.drop k) := by
  have e : flat (rows.take k ++ rows.drop k) = flat (rows.take k) + flat (rows.drop k) := by unfold flat; rw [List.map_append, List.sum_append]
  rw [List.take_append_drop] at e
  exact ⟨Nat.le_trans (by rw [List.length_drop]; omega) h.1, by have := h.2; omega⟩
set_option maxHeartbeats 4000000 in
set_option maxRecDepth 100000 in
theorem walk (A : Option Addr) (n c : Nat) (zs : List Int) (w : World) (f : RdL (Value.int .u8) w A n zs ∧ n ≤ c ∧ c ≤ maxLen ∧ ∀ z ∈ zs, (Lit.int .u8 z).wf = true) :
    Calls Try.prog 8 #[.slice A n c] w fun e w' => e = .returned (.bool true) ∧ Below w.heap.size w w' := by
  obtain ⟨hx, hc, hm, hz⟩ := f
  have HZ := Lib.hid (bytes_wf hz)
  clear hz
  by_cases hn : n ≤ 1048576
  · go_enter Try.func8, Try.ntmps8
    go_wp2_with fail
    refine (DrawFrameSends_any A n c zs w hx HZ.out hc hn).mono ?_
    rintro x w1 ⟨A1, n1, c1, t, rfl, hT, hc1, hsm, b1⟩
    have HL := hT.len
    have HSM := Lib.hid hsm; clear hsm
    obtain ⟨S, HS⟩ : ∃ S, Hid (sendsL t = S) := ⟨_, rfl⟩
    have hSb : 0 ≤ S ∧ S ≤ 1048576 := by
      rw [← HS.out]
      have h1 := sends_flat t
      have h2 := HSM.out.2
      omega
    obtain ⟨hS0, hS1⟩ := hSb
    go_wp2_with fail
    refine (impl_FrameSends0 A1 n1 c1 t w1 hT HSM.out).mono ?_
    rintro x w2 ⟨rfl, m2, rfl⟩
    rw [HS.out]
    go_wp2_with fail
    refine (spec_FrameSends0 A1 n1 c1 t _ (hT.drewN _) HSM.out).mono ?_
    rintro x w3 ⟨rfl, m3, rfl⟩
    rw [HS.out]
    have hss : (S != S) = false := by simp
    have hT3 := (hT.drewN m2).drewN m3
    have B3 := below_drewN (below_drewN b1 m2) m3
    clear hT b1
    obtain ⟨W, hW⟩ : ∃ V, (w1.drewN m2).drewN m3 = V := ⟨_, rfl⟩
    rw [hW] at hT3 B3 ⊢
    clear hW
    by_cases h0 : n1 = 0
    · subst h0
      have hS00 : S = 0 := by rw [← HS.out, List.eq_nil_of_length_eq_zero HL.out]; rfl
      subst hS00
      go_wp2_with fail
      refine (alive_any _).mono ?_
      rintro x w4 ⟨rfl, b4⟩
      go_wp2
      go_ret
      exact ⟨rfl, bstep B3 b4⟩
    · have hnp : 0 < n1 := by omega
      obtain ⟨b, off, Ak, nk, ck, r, rfl, HX, hc9, hrd, hnk⟩ := hT3.at hnp
      have hzn : ((n1 : Int) == 0) = false := by simp; omega
      have hge : decide (0 ≤ S) = true := by simp; omega
      have hTd : RdT W (if c1 = 1 then some ⟨b, off, none⟩ else some ⟨b, off + 1, none⟩) (n1 - 1) (t.drop 1) := by
        by_cases hc1e : c1 = 1
        · rw [if_pos hc1e]
          obtain rfl : n1 = 1 := by omega
          have e1 : t.drop 1 = t.take 0 := by rw [List.drop_eq_nil_of_le (by rw [HL.out]; exact Nat.le_refl _)]; rfl
          rw [e1]; exact hT3.take (Nat.zero_le _)
        · rw [if_neg hc1e]; exact hT3.drop hnp
      have k1 : ∀ q, Calls Try.prog 16 #[.slice (if c1 = 1 then some ⟨b, off, none⟩ else some ⟨b, off + 1, none⟩) (n1 - 1) (c1 - 1)] (W.drewN q) fun e w' => e = .returned (.int .i64 (sendsL (t.drop 1))) ∧ ∃ m, w' = (W.drewN q).drewN m := fun q => impl_FrameSends0 _ _ _ _ _ (hTd.drewN q) (smt_drop HSM.out 1)
      have k2 : ∀ q, Calls Try.prog 16 #[.slice (some ⟨b, off, none⟩) 1 c1] (W.drewN q) fun e w' => e = .returned (.int .i64 (sendsL (t.take 1))) ∧ ∃ m, w' = (W.drewN q).drewN m := fun q => impl_FrameSends0 _ _ _ _ _ ((hT3.take hnp).drewN q) (smt_take HSM.out 1)
      have e1 : sendsL (t.drop 1) + sendsL (t.take 1) = S := by
        rw [← HS.out, Int.add_comm, ← sendsL_app, List.take_append_drop]
      obtain ⟨R1, HR1⟩ : ∃ R, sendsL (t.drop 1) = R := ⟨_, rfl⟩
      obtain ⟨R2, HR2⟩ : ∃ R, sendsL (t.take 1) = R := ⟨_, rfl⟩
      rw [HR1] at k1 e1
      rw [HR2] at k2 e1
      have hw1 : IntKind.i64.wrap (R1 + R2) = S := by rw [e1]; exact IntWalk.i64_in _ (by omega)
      have hse : (S == S) = true := by simp
      have K1 := Lib.hid k1
      have K2 := Lib.hid k2
      clear k1 k2 e1 HR1 HR2
      have hn1 : (1 : Int) ≤ (n1 : Int) := by omega
      have hc1' : (1 : Int) ≤ (c1 : Int) := by omega
      go_wp2
      go_quiet (first
        | (go_at_call 16; with_reducible exact quiet_step (K1.out _))
        | (go_at_call 16; with_reducible exact quiet_step (K2.out _)))
      all_goals
        go_wp2
        all_goals
          go_ret
          exact ⟨rfl, below_drewN B3 _⟩
  · go_enter Try.func8, Try.ntmps8
    go_wp2
    go_ret
    exact ⟨rfl, Below.refl _ _⟩
set_option maxRecDepth 100000 in
theorem lifted (os : Os) (started : os.Started) (H : Type) (enc : TypeId × Value → H) :
    ReturnsInHanded {} Try.checked os 8 .any (Rows.fnFrameSendsSpec.pre6 enc Try.prog Try.f8 Rows.fnFrameSendsRow.domain false) (Rows.fnFrameSendsSpec.post enc Try.prog Try.f8 false true false false) := by
  refine returnsInHanded_of_change (C := Try.checked) own started (by kernel_rfl) Try.func8
    (ChangeSpec.witness6 (enc := enc) (C := Try.checked) false ⟨#[], #[.slice none 0 0], []⟩ 8 (by kernel_rfl) (by kernel_rfl) (by kernel_rfl) (by kernel_rfl)) ?_
  intro W base args ds gs before hval0 hW hcnd _
  have hval : ∀ (j : Nat) t v, Try.f8.params[j]? = some t → args[j]? = some v → Value.okWide Try.prog W .any base t v := hval0
  have hW' := hW
  obtain ⟨p, q, hA0, hV, rfl, hfz, hnd⟩ := hW
  have hA : DataW.TrodAll enc Try.prog W 0 (fun _ => true) true Try.f8.params.toList args.toList ds p := hA0
  rw [Try.params8] at hA hval
  obtain ⟨v0, vs0, d0, ds0, p0, q0, hargs, rfl, rfl, k0, r0⟩ := trodAll_cons hA
  obtain ⟨rfl, rfl, rfl⟩ := trodAll_nil r0
  obtain rfl : args = #[v0] := by cases args; simp_all
  obtain ⟨rfl, rfl⟩ := trodVars_none hV
  have lt0 : ∀ x ∈ p0, x.block < W.heap.size := by obtain ⟨m, hm⟩ := k0; exact DataW.trod_lt m _ _ _ hm
  obtain ⟨a0, n0, c0, rfl⟩ := okWide_slice Try.underlying22 (hval 0 22 v0 rfl rfl)
  obtain ⟨z0, f0⟩ := open_bytes (W := W) k0
  clear hA0 hval0
  refine (walk a0 n0 c0 z0 W f0).mono fun e W' ⟨he, bel⟩ => ?_
  subst he
  exact ⟨_, rfl, _, _, _, [], _, [], hW', trodAll_mk1 (shut_bool Try.underlying4 _), (trodAll_cons_mk (Below.trod laidOut (by kernel_rfl) (of_decide_eq_true (by kernel_rfl)) k0 bel lt0) trodAll_mk0), rfl, bel.frame _, fun h => by cases h⟩
theorem closed : joinedFacts Try.pinned.checked.prog 8 Try.f8 Rows.fnFrameSendsSpec Rows.fnFrameSendsRow = true := by
  unfold joinedFacts
  repeat' (with_reducible refine Bool.and_eq_true_iff.2 ⟨?_, ?_⟩)
  · kernel_rfl
  · exact laidOut
  · kernel_rfl
  · kernel_rfl
  · kernel_rfl
  · kernel_rfl
  · kernel_rfl
  · kernel_rfl
  · kernel_rfl
  · kernel_rfl
  · kernel_rfl
  · kernel_rfl
  · kernel_rfl
  · kernel_rfl
  · kernel_rfl
  · kernel_rfl
  · kernel_rfl
  · kernel_rfl
  · kernel_rfl
  · kernel_rfl
  · kernel_rfl
  · kernel_rfl
  · kernel_rfl
  · kernel_rfl
  · kernel_rfl
  · exact heavy.1
  · exact heavy.2.1
  · exact heavy.2.2
  · kernel_rfl
  · kernel_rfl
  · kernel_rfl
  · kernel_rfl
theorem over : Rows.fnFrameSendsRow.holds Try.pinned (OpenSpec.ofChange Rows.fnFrameSendsSpec) :=
  OpenClaim.holds_of_wide 8 Try.f8 rfl rfl rfl rfl rfl rfl rfl ⟨rfl, rfl, rfl, rfl, rfl⟩ rfl rfl rfl rfl rfl (by kernel_rfl) Try.func8 closed
    (of_decide_eq_true (by kernel_rfl)) (by unfold Func.isWrapper; first | (rw [if_pos (by decide +kernel)]; kernel_rfl) | (rw [if_neg (by decide +kernel)]; exact ⟨rfl, rfl⟩))
    (fun os started H enc _ => lifted os started H enc)
theorem proved : Rows.FnFrameSendsSaid := over
#print axioms proved
end Go.Proofs.Ythfjlellaojdmaa.frameSends
