/- FnCallPut returns true for every code. No condition. -/
import Derived.Test.YtcickfahpcmcdaaFrame
import Derived.Test.YtcickfahpcmcdaaPerm
import Derived.Test.YtcickfahpcmcdaaAsk2
import Derived.Test.Ytcickfahpcmcdaa4sc
import Derived.Test.Ytcickfahpcmcdaa4pv
namespace Go.Proofs.Ytcickfahpcmcdaa.callPut
open Go.ChangeShapes Go.WideShapes Go.ChangeAt Go.RowKit
set_option linter.unusedSimpArgs false
set_option linter.unusedVariables false
theorem put_drop {o e m : Int} {xs ys : List Cl} {i q : Int} (h : putL o e m xs i q = (ys, true)) : CallsOk o e m ys ∧ dropL o e m ys i = (xs, true) ∧ movedC xs ys = 0 := by
  unfold putL at h
  split at h
  · rename_i hok
    unfold putF at h
    split at h
    · injection h with h1 h2; cases h2
    · rename_i v vs hv
      injection h with h1 h2
      subst h1
      have hm : v ∈ freeL o e m xs i q := by rw [hv]; simp
      have hok2 := (mem_freeL.1 hm).2.2.2
      refine ⟨hok2, ?_, by rw [movedC_app xs xs _ rfl, movedC_self]⟩
      have hc := (callsOk_snoc.1 hok2).2.2
      have hf : xs.filter (keepP i) = xs := List.filter_eq_self.2 fun c hcm => by have := (hc c hcm).1; simp [keepP]; exact this
      unfold dropL
      rw [if_pos hok2, List.filter_append, hf]
      have : [(⟨i, q, v⟩ : Cl)].filter (keepP i) = [] := by simp [keepP]
      rw [this]; simp
  · injection h with h1 h2; cases h2
theorem put_fail {o e m : Int} {xs ys : List Cl} {i q : Int} (h : putL o e m xs i q = (ys, false)) : xs = ys ∨ ¬ CallsOk o e m xs := by
  unfold putL at h
  split at h
  · left
    unfold putF at h
    split at h
    · injection h
    · injection h with h1 h2; cases h2
  · right; assumption
theorem put_size (o e m : Int) (xs : List Cl) (i q : Int) : (putL o e m xs i q).1.length ≤ xs.length + 1 := by
  unfold putL
  split
  · unfold putF; split <;> simp
  · simp
set_option maxHeartbeats 4000000 in
set_option maxRecDepth 100000 in
theorem walk (A : Option Addr) (n c : Nat) (zs : List Int) (w : World) (f : RdL (Value.int .u8) w A n zs ∧ n ≤ c ∧ c ≤ maxLen ∧ ∀ z ∈ zs, (Lit.int .u8 z).wf = true) :
    Calls Try.prog 12 #[.slice A n c] w fun e w' => e = .returned (.bool true) ∧ Below w.heap.size w w' := by
  obtain ⟨hx, hc, hm, hz⟩ := f
  have HZ := Lib.hid (bytes_wf hz)
  clear hz
  by_cases hn : n ≤ 1048576
  · go_enter Try.func12, Try.ntmps12
    go_wp2_with fail
    refine (DrawCallPut_any A n c zs w hx HZ.out hc hn).mono ?_
    rintro x w1 ⟨o, e, m, A1, n1, c1, xs, i, q, rfl, HB, hn1, O1, b1⟩
    obtain ⟨ho0, ho1, he0, he1, hm0, hm1⟩ := HB.out
    have S1 := ShAt.new w1 o e m
    have O1' := OwnM.alloc O1 (.cells #[.int .i64 o, .int .i64 e, .int .i64 m] 24)
    have hX := OwnC.rd O1'
    have hcap := (OwnM.cap O1).1
    have HLX := hX.len
    have B1 := bbox b1 b1.size (.cells #[.int .i64 o, .int .i64 e, .int .i64 m] 24)
    clear O1 O1'
    obtain ⟨s0, s1, s2, -⟩ := S1.cells

    go_wp2_with fail
    refine (impl_CallPut o e m A1 n1 c1 xs i q _ hX hcap (by omega)).mono ?_
    rintro x w2 ⟨A2, n2, c2, ys, t, rfl, HP2, O2, b2⟩
    have S2 := S1.below b2
    have B2 := bstep B1 b2
    have hX2 := RdM.below hX b2 (Nat.le_refl _)
    have hl2 : n2 ≤ 17 := by have h1 := put_size o e m xs i q; rw [HP2.out] at h1; have h2 := (OwnC.len O2).out; have h3 := HLX.out; simp at h1; omega
    clear s0 s1 s2
    obtain ⟨s0, s1, s2, -⟩ := S2.cells
    go_wp2_with fail
    refine (spec_CallPut o e m A1 n1 c1 xs i q _ hX2 hcap (by omega)).mono ?_
    rintro x w3 ⟨A3, n3, c3, ys', t', rfl, HP3, O3, b3⟩
    obtain ⟨rfl, rfl⟩ : ys = ys' ∧ t = t' := by have h := HP2.out.symm.trans HP3.out; injection h with h1 h2; exact ⟨h1, h2⟩
    have hl3 : n3 = n2 := by rw [← (OwnC.len O3).out, ← (OwnC.len O2).out]
    subst hl3
    have S3 := S2.below b3
    have B3 := bstep B2 b3
    have hX3 := RdM.below hX2 b3 (Nat.le_refl _)
    have hY2 := RdM.below (OwnC.rd O2) b3 (Nat.le_refl _)
    have hY3 := OwnC.rd O3
    clear s0 s1 s2
    go_wp2_with fail
    refine (sameCalls_any A2 A3 n3 n3 c2 c3 ys ys _ hY2 hY3 (by omega) (by omega)).mono ?_
    rintro x w4 ⟨v4, rfl, hv4, m4, rfl⟩
    obtain rfl := hv4.out.2 rfl
    clear hv4
    cases t with
    | false =>
      have HF := Lib.hid (put_fail HP2.out)
      go_wp2_with fail
      refine (sameCalls_any A2 A1 n3 n1 c2 c1 ys xs _ (hY2.drewN _) (hX3.drewN _) (by omega) (by omega)).mono ?_
      rintro x w5 ⟨v5, rfl, hv5, m5, rfl⟩
      cases v5 with
      | true =>
        clear hv5
        go_wp2_with fail
        refine (alive_any _).mono ?_
        rintro x w6 ⟨rfl, b6⟩
        go_wp2
        go_ret
        exact ⟨rfl, bstep (below_drewN B3 _) b6⟩
      | false =>
        have HNO : Hid (¬ CallsOk o e m xs) := by
          rcases HF.out with h | h
          · have := hv5.out.2 h.symm; cases this
          · exact h
        clear hv5
        have S5 := S3.drewN (m4 + m5)
        obtain ⟨s0, s1, s2, -⟩ := S5.cells
        go_wp2_with fail
        refine (impl_CallsValid o e m A1 n1 c1 xs _ (hX3.drewN _) hcap (by omega)).mono ?_
        rintro x w6 ⟨v6, rfl, hv6, b6⟩
        have hvf : v6 = false := by
          cases v6 with
          | false => rfl
          | true => exact absurd (hv6.out.1 rfl) HNO.out
        subst hvf
        clear hv6 s0 s1 s2
        go_wp2_with fail
        refine (alive_any _).mono ?_
        rintro x w7 ⟨rfl, b7⟩
        go_wp2
        go_ret
        exact ⟨rfl, bstep (bstep (below_drewN B3 _) b6) b7⟩
    | true =>
      obtain ⟨p1, p2, p3⟩ := put_drop HP2.out
      have HP1 := Lib.hid p1
      have HPD := Lib.hid p2
      have HPM := Lib.hid p3
      clear p1 p2 p3
      have S4 := S3.drewN m4
      obtain ⟨s0, s1, s2, -⟩ := S4.cells
      go_wp2_with fail
      refine (impl_CallDrop o e m A2 n3 c2 ys i _ (hY2.drewN _) (OwnM.cap O2).1 (by omega)).mono ?_
      rintro x w5 ⟨A5, n5, c5, zs5, t5, rfl, HP5, O5, b5⟩
      obtain ⟨rfl, rfl⟩ : xs = zs5 ∧ true = t5 := by have h := HPD.out.symm.trans HP5.out; injection h with h1 h2; exact ⟨h1, h2⟩
      have hl5 : n5 = n1 := by rw [← (OwnC.len O5).out, HLX.out]
      subst hl5
      have S5 := S4.below b5
      have B5 := bstep (below_drewN B3 m4) b5
      have hX5 := RdM.below (hX3.drewN m4) b5 (Nat.le_refl _)
      have hY5 := RdM.below (hY2.drewN m4) b5 (Nat.le_refl _)
      have hD5 := OwnC.rd O5
      clear s0 s1 s2
      obtain ⟨s0, s1, s2, -⟩ := S5.cells
      go_wp2_with fail
      refine (impl_CallsValid o e m A2 n3 c2 ys _ hY5 (OwnM.cap O2).1 (by omega)).mono ?_
      rintro x w6 ⟨v6, rfl, hv6, b6⟩
      obtain rfl := hv6.out.2 HP1.out
      clear hv6 s0 s1 s2
      have B6 := bstep B5 b6
      have hX6 := RdM.below hX5 b6 (Nat.le_refl _)
      have hY6 := RdM.below hY5 b6 (Nat.le_refl _)
      have hD6 := RdM.below hD5 b6 (Nat.le_refl _)
      go_wp2_with fail
      refine (sameCalls_any A5 A1 n5 n5 c5 c1 xs xs _ hD6 hX6 (by omega) (by omega)).mono ?_
      rintro x w7 ⟨v7, rfl, hv7, m7, rfl⟩
      obtain rfl := hv7.out.2 rfl
      clear hv7
      go_wp2_with fail
      refine (impl_CallsMoved A1 A2 n5 n3 c1 c2 xs ys _ (hX6.drewN _) (hY6.drewN _) (by omega) (by omega)).mono ?_
      rintro x w8 ⟨rfl, m8, rfl⟩
      rw [HPM.out]
      go_wp2
      go_ret
      exact ⟨rfl, below_drewN B6 _⟩
  · go_enter Try.func12, Try.ntmps12
    go_wp2
    go_ret
    exact ⟨rfl, Below.refl _ _⟩
set_option maxRecDepth 100000 in
theorem lifted (os : Os) (started : os.Started) (H : Type) (enc : TypeId × Value → H) :
    ReturnsInHanded {} Try.checked os 12 .any (Rows.fnCallPutSpec.pre6 enc Try.prog Try.f12 Rows.fnCallPutRow.domain false) (Rows.fnCallPutSpec.post enc Try.prog Try.f12 false true false false) := by
  refine returnsInHanded_of_change (C := Try.checked) own started (by kernel_rfl) Try.func12
    (ChangeSpec.witness6 (enc := enc) (C := Try.checked) false ⟨#[], #[.slice none 0 0], []⟩ 8 (by kernel_rfl) (by kernel_rfl) (by kernel_rfl) (by kernel_rfl)) ?_
  intro W base args ds gs before hval0 hW hcnd _
  have hval : ∀ (j : Nat) t v, Try.f12.params[j]? = some t → args[j]? = some v → Value.okWide Try.prog W .any base t v := hval0
  have hW' := hW
  obtain ⟨p, q, hA0, hV, rfl, hfz, hnd⟩ := hW
  have hA : DataW.TrodAll enc Try.prog W 0 (fun _ => true) true Try.f12.params.toList args.toList ds p := hA0
  rw [Try.params12] at hA hval
  obtain ⟨v0, vs0, d0, ds0, p0, q0, hargs, rfl, rfl, k0, r0⟩ := trodAll_cons hA
  obtain ⟨rfl, rfl, rfl⟩ := trodAll_nil r0
  obtain rfl : args = #[v0] := by cases args; simp_all
  obtain ⟨rfl, rfl⟩ := trodVars_none hV
  have lt0 : ∀ x ∈ p0, x.block < W.heap.size := by obtain ⟨m, hm⟩ := k0; exact DataW.trod_lt m _ _ _ hm
  obtain ⟨a0, n0, c0, rfl⟩ := okWide_slice Try.underlying22 (hval 0 22 v0 rfl rfl)
  obtain ⟨z0, f0⟩ := open_bytes (W := W) k0
  clear hA0 hval0
  refine (walk a0 n0 c0 z0 W f0).mono fun e W' ⟨he, bel⟩ => ?_
  subst he
  exact ⟨_, rfl, _, _, _, [], _, [], hW', trodAll_mk1 (shut_bool Try.underlying4 _), (trodAll_cons_mk (Below.trod laidOut (by kernel_rfl) (of_decide_eq_true (by kernel_rfl)) k0 bel lt0) trodAll_mk0), rfl, bel.frame _, fun h => by cases h⟩
theorem closed : joinedFacts Try.pinned.checked.prog 12 Try.f12 Rows.fnCallPutSpec Rows.fnCallPutRow = true := by
  unfold joinedFacts
  repeat' (with_reducible refine Bool.and_eq_true_iff.2 ⟨?_, ?_⟩)
  · kernel_rfl
  · exact laidOut
  · kernel_rfl
  · kernel_rfl
  · kernel_rfl
  · kernel_rfl
  · kernel_rfl
  · kernel_rfl
  · kernel_rfl
  · kernel_rfl
  · kernel_rfl
  · kernel_rfl
  · kernel_rfl
  · kernel_rfl
  · kernel_rfl
  · kernel_rfl
  · kernel_rfl
  · kernel_rfl
  · kernel_rfl
  · kernel_rfl
  · kernel_rfl
  · kernel_rfl
  · kernel_rfl
  · kernel_rfl
  · kernel_rfl
  · exact heavy.1
  · exact heavy.2.1
  · exact heavy.2.2
  · kernel_rfl
  · kernel_rfl
  · kernel_rfl
  · kernel_rfl
theorem over : Rows.fnCallPutRow.holds Try.pinned (OpenSpec.ofChange Rows.fnCallPutSpec) :=
  OpenClaim.holds_of_wide 12 Try.f12 rfl rfl rfl rfl rfl rfl rfl ⟨rfl, rfl, rfl, rfl, rfl⟩ rfl rfl rfl rfl rfl (by kernel_rfl) Try.func12 closed
    (of_decide_eq_true (by kernel_rfl)) (by unfold Func.isWrapper; first | (rw [if_pos (by decide +kernel)]; kernel_rfl) | (rw [if_neg (by decide +kernel)]; exact ⟨rfl, rfl⟩))
    (fun os started H enc _ => lifted os started H enc)
theorem proved : Rows.FnCallPutSaid := over
#print axioms proved
end Go.Proofs.Ytcickfahpcmcdaa.callPut
