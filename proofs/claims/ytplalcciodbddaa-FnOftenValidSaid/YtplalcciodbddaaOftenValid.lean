/- FnOftenValid returns true for every code. No condition. -/
import Derived.Test.YtplalcciodbddaaFrame
import Derived.Test.YtplalcciodbddaaPerm
import Derived.Test.YtplalcciodbddaaD6
import Derived.Test.Ytplalcciodbddaa6v
namespace Go.Proofs.Ytplalcciodbddaa.oftenValid
open Go.ChangeShapes Go.WideShapes Go.ChangeAt Go.RowKit
set_option linter.unusedSimpArgs false
set_option linter.unusedVariables false
set_option maxHeartbeats 1000000 in
theorem walk (A : Option Addr) (n c : Nat) (zs : List Int) (w : World) (f : RdL (Value.int .u8) w A n zs ∧ n ≤ c ∧ c ≤ maxLen ∧ ∀ z ∈ zs, (Lit.int .u8 z).wf = true) :
    Calls Try.prog 10 #[.slice A n c] w fun e w' => e = .returned (.bool true) ∧ Below w.heap.size w w' := by
  obtain ⟨hx, hc, hm, hz⟩ := f
  have HZ := Lib.hid (bytes_wf hz)
  clear hz
  by_cases hn : n ≤ 1048576
  · have hmk : ∀ (k : Nat) (W : World), k ≤ 12 → (Instr.makeSlice 23 (.int .i64 k) (.int .i64 k)).run Try.prog W = .ok (.slice (some ⟨W.heap.size, 0, none⟩) k k) (W.alloc (.cells (madeCells #[.int .i64 0] k) 3)) := fun k W hk => run_make_row' (P := Try.prog) 23 3 (.int .i64 0) 8 Try.underlying23 info_int rfl .i64 .i64 k (by omega) (by omega) W
    have HMK := Lib.hid hmk; clear hmk
    go_enter Try.func10, Try.ntmps10
    go_wp2_with fail
    refine (DrawOftenValid_any A n c zs w hx HZ.out hc hn).mono ?_
    rintro x w2 ⟨A2, n2, c2, xs2, rfl, O2, hn2, B2⟩
    have hsz2 := B2.size
    have HL := O2.len
    go_wp2_with fail
    refine (impl_OftenValid A2 n2 c2 xs2 w2 O2.rd (by omega)).mono ?_
    rintro x w3 ⟨rfl, m3, rfl⟩
    go_wp2_with fail
    refine (spec_OftenValid A2 n2 c2 xs2 _ (O2.rd.drewN _) (by omega)).mono ?_
    rintro x w4 ⟨rfl, m4, rfl⟩
    cases hV : oftenB xs2 with
    | false =>
      clear hV
      have R7 : RdL iv ((w2).alloc (.cells #[.int .i64 1] 3)) (some ⟨w2.heap.size, 0, none⟩) 1 [1] := by
        have := (OwnL.lit (emb := iv) (e := 3) (B := (w2).heap.size) (w2) [1] (by decide) (Nat.le_refl _)).rd
        simpa using this
      go_wp2_with fail
      refine (impl_OftenValid _ 1 1 [1] _ (R7.drewN _) (by omega)).mono ?_
      rintro x w7 ⟨rfl, m7, rfl⟩
      rw [show oftenB [1] = false from rfl]
      go_wp2_with fail
      refine (alive_any _).mono ?_
      rintro x w9 ⟨rfl, b9⟩
      go_wp2
      go_ret
      exact ⟨rfl, bstep (below_drewN (bbox (B2) (B2).size _) _) b9⟩
    | true =>
      have HV := Lib.hid hV; clear hV
      have HR : Hid (oftenB (List.replicate n2 0) = true) := by
        have h1 := HV.out
        unfold oftenB at h1
        show oftenB (List.replicate n2 0) = true
        unfold oftenB
        simp [inB] at h1 ⊢
        have := HL.out
        omega
      have hmk := fun W => HMK.out n2 W hn2
      go_wp2_with fail
      refine (impl_OftenValid _ n2 n2 (List.replicate n2 0) _ ((OwnL.made (emb := iv) (e := 3) w2 0 n2 (by unfold maxLen; omega) w2.heap.size (Nat.le_refl _)).rd.drewN _) (by omega)).mono ?_
      rintro x w5 ⟨rfl, m5, rfl⟩
      rw [HR.out]
      clear hmk
      have R7 : RdL iv ((w2.alloc (.cells (madeCells #[.int .i64 0] n2) 3)).alloc (.cells #[.int .i64 1] 3)) (some ⟨w2.heap.size + 1, 0, none⟩) 1 [1] := by
        have := (OwnL.lit (emb := iv) (e := 3) (B := (w2.alloc (.cells (madeCells #[.int .i64 0] n2) 3)).heap.size) (w2.alloc (.cells (madeCells #[.int .i64 0] n2) 3)) [1] (by decide) (Nat.le_refl _)).rd
        simpa using this
      go_wp2_with fail
      refine (impl_OftenValid _ 1 1 [1] _ (R7.drewN _) (by omega)).mono ?_
      rintro x w7 ⟨rfl, m7, rfl⟩
      rw [show oftenB [1] = false from rfl]
      go_wp2_with fail
      refine (alive_any _).mono ?_
      rintro x w9 ⟨rfl, b9⟩
      go_wp2
      go_ret
      exact ⟨rfl, bstep (below_drewN (bbox (bbox B2 hsz2 (.cells (madeCells #[.int .i64 0] n2) 3)) (bbox B2 hsz2 (.cells (madeCells #[.int .i64 0] n2) 3)).size _) _) b9⟩
  · go_enter Try.func10, Try.ntmps10
    go_wp2
    go_ret
    exact ⟨rfl, Below.refl _ _⟩
set_option maxRecDepth 100000 in
theorem lifted (os : Os) (started : os.Started) (H : Type) (enc : TypeId × Value → H) :
    ReturnsInHanded {} Try.checked os 10 .any (Rows.fnOftenValidSpec.pre6 enc Try.prog Try.f10 Rows.fnOftenValidRow.domain false) (Rows.fnOftenValidSpec.post enc Try.prog Try.f10 false true false false) := by
  refine returnsInHanded_of_change (C := Try.checked) own started (by kernel_rfl) Try.func10
    (ChangeSpec.witness6 (enc := enc) (C := Try.checked) false ⟨#[], #[.slice none 0 0], []⟩ 8 (by kernel_rfl) (by kernel_rfl) (by kernel_rfl) (by kernel_rfl)) ?_
  intro W base args ds gs before hval0 hW hcnd _
  have hval : ∀ (j : Nat) t v, Try.f10.params[j]? = some t → args[j]? = some v → Value.okWide Try.prog W .any base t v := hval0
  have hW' := hW
  obtain ⟨p, q, hA0, hV, rfl, hfz, hnd⟩ := hW
  have hA : DataW.TrodAll enc Try.prog W 0 (fun _ => true) true Try.f10.params.toList args.toList ds p := hA0
  rw [Try.params10] at hA hval
  obtain ⟨v0, vs0, d0, ds0, p0, q0, hargs, rfl, rfl, k0, r0⟩ := trodAll_cons hA
  obtain ⟨rfl, rfl, rfl⟩ := trodAll_nil r0
  obtain rfl : args = #[v0] := by cases args; simp_all
  obtain ⟨rfl, rfl⟩ := trodVars_none hV
  have lt0 : ∀ x ∈ p0, x.block < W.heap.size := by obtain ⟨m, hm⟩ := k0; exact DataW.trod_lt m _ _ _ hm
  obtain ⟨a0, n0, c0, rfl⟩ := okWide_slice Try.underlying27 (hval 0 27 v0 rfl rfl)
  obtain ⟨z0, f0⟩ := open_bytes (W := W) k0
  clear hA0 hval0
  refine (walk a0 n0 c0 z0 W f0).mono fun e W' ⟨he, bel⟩ => ?_
  subst he
  exact ⟨_, rfl, _, _, _, [], _, [], hW', trodAll_mk1 (shut_bool Try.underlying4 _), (trodAll_cons_mk (Below.trod laidOut (by kernel_rfl) (of_decide_eq_true (by kernel_rfl)) k0 bel lt0) trodAll_mk0), rfl, bel.frame _, fun h => by cases h⟩
theorem closed : joinedFacts Try.pinned.checked.prog 10 Try.f10 Rows.fnOftenValidSpec Rows.fnOftenValidRow = true := by
  unfold joinedFacts
  repeat' (with_reducible refine Bool.and_eq_true_iff.2 ⟨?_, ?_⟩)
  · kernel_rfl
  · exact laidOut
  · kernel_rfl
  · kernel_rfl
  · kernel_rfl
  · kernel_rfl
  · kernel_rfl
  · kernel_rfl
  · kernel_rfl
  · kernel_rfl
  · kernel_rfl
  · kernel_rfl
  · kernel_rfl
  · kernel_rfl
  · kernel_rfl
  · kernel_rfl
  · kernel_rfl
  · kernel_rfl
  · kernel_rfl
  · kernel_rfl
  · kernel_rfl
  · kernel_rfl
  · kernel_rfl
  · kernel_rfl
  · kernel_rfl
  · exact heavy.1
  · exact heavy.2.1
  · exact heavy.2.2
  · kernel_rfl
  · kernel_rfl
  · kernel_rfl
  · kernel_rfl
theorem over : Rows.fnOftenValidRow.holds Try.pinned (OpenSpec.ofChange Rows.fnOftenValidSpec) :=
  OpenClaim.holds_of_wide 10 Try.f10 rfl rfl rfl rfl rfl rfl rfl ⟨rfl, rfl, rfl, rfl, rfl⟩ rfl rfl rfl rfl rfl (by kernel_rfl) Try.func10 closed
    (of_decide_eq_true (by kernel_rfl)) (by unfold Func.isWrapper; first | (rw [if_pos (by decide +kernel)]; kernel_rfl) | (rw [if_neg (by decide +kernel)]; exact ⟨rfl, rfl⟩))
    (fun os started H enc _ => lifted os started H enc)
theorem proved : Rows.FnOftenValidSaid := over
#print axioms proved
end Go.Proofs.Ytplalcciodbddaa.oftenValid
