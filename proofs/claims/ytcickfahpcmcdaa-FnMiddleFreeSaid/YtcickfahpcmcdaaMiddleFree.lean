/- FnMiddleFree returns true for every code. No condition. -/
import Derived.Test.YtcickfahpcmcdaaFrame
import Derived.Test.YtcickfahpcmcdaaPerm
import Derived.Test.YtcickfahpcmcdaaAsk2
import Derived.Test.Ytcickfahpcmcdaa4sc
import Derived.Test.Ytcickfahpcmcdaa4mh
import Derived.Deep.RegionHeld3
import Derived.Deep.DeepCutAuto
namespace Go.Proofs.Ytcickfahpcmcdaa.middleFree
open Go.ChangeShapes Go.WideShapes Go.ChangeAt Go.RowKit
set_option linter.unusedSimpArgs false
set_option linter.unusedVariables false
theorem free_asc (o e m : Int) (xs : List Cl) (i q : Int) : Asc (freeL o e m xs i q) := by
  have h : (freeL o e m xs i q).Pairwise (· < ·) := by
    unfold freeL
    split
    · refine List.Pairwise.filter _ ?_
      unfold upto
      rw [List.pairwise_map]
      exact List.pairwise_lt_range.imp fun h => by simpa using h
    · exact List.Pairwise.nil
  intro k x y hx hy
  exact pairwise_at h hx hy (by omega)
set_option maxHeartbeats 4000000 in
set_option maxRecDepth 100000 in
theorem walk (A : Option Addr) (n c : Nat) (zs : List Int) (w : World) (f : RdL (Value.int .u8) w A n zs ∧ n ≤ c ∧ c ≤ maxLen ∧ ∀ z ∈ zs, (Lit.int .u8 z).wf = true) :
    Calls Try.prog 10 #[.slice A n c] w fun e w' => e = .returned (.bool true) ∧ Below w.heap.size w w' := by
  obtain ⟨hx, hc, hm, hz⟩ := f
  have HZ := Lib.hid (bytes_wf hz)
  clear hz
  by_cases hn : n ≤ 1048576
  · go_enter Try.func10, Try.ntmps10
    go_wp2_with fail
    refine (DrawMiddleFree_any A n c zs w hx HZ.out hc hn).mono ?_
    rintro x w1 ⟨o, e, m, A1, n1, c1, xs, i, q, rfl, HB, hn1, O1, b1⟩
    obtain ⟨ho0, ho1, he0, he1, hm0, hm1⟩ := HB.out
    have S1 := ShAt.new w1 o e m
    have O1' := OwnM.alloc O1 (.cells #[.int .i64 o, .int .i64 e, .int .i64 m] 24)
    have hX := OwnC.rd O1'
    have hcap := (OwnM.cap O1).1
    have HLX := hX.len
    have B1 := bbox b1 b1.size (.cells #[.int .i64 o, .int .i64 e, .int .i64 m] 24)
    clear O1 O1'
    obtain ⟨s0, s1, s2, -⟩ := S1.cells

    obtain ⟨hp0, hp1⟩ := mul_bd ho0 ho1 he0 he1
    obtain ⟨fs, HFS⟩ : ∃ fs, Hid (freeL o e m xs i q = fs) := ⟨_, rfl⟩
    have hfl : fs.length ≤ 6 := by rw [← HFS.out]; exact Nat.le_trans (free_len6 o e m xs i q) (by omega)
    go_wp2_with fail
    refine (impl_MiddleFree o e m A1 n1 c1 xs i q _ hX hcap (by omega)).mono ?_
    rintro x w2 ⟨A2, n2, c2, rfl, O2, b2⟩
    rw [HFS.out] at O2
    have S2 := S1.below b2
    have B2 := bstep B1 b2
    have hX2 := RdM.below hX b2 (Nat.le_refl _)
    have hl2 : n2 ≤ 6 := by rw [← O2.len.out]; exact hfl
    clear s0 s1 s2
    obtain ⟨s0, s1, s2, -⟩ := S2.cells
    go_wp2_with fail
    refine (spec_MiddleFree o e m A1 n1 c1 xs i q _ hX2 hcap (by omega)).mono ?_
    rintro x w3 ⟨A3, n3, c3, rfl, O3, b3⟩
    rw [HFS.out] at O3
    have hl3 : n3 = n2 := by rw [← O3.len.out, ← O2.len.out]
    subst hl3
    have S3 := S2.below b3
    have B3 := bstep B2 b3
    have hX3 := RdM.below hX2 b3 (Nat.le_refl _)
    have hY2 := (O2.rd).below b3 (Nat.le_refl _)
    have hY3 := O3.rd
    clear s0 s1 s2
    go_wp2_with fail
    refine (sameInts_any A2 A3 n3 n3 c2 c3 fs fs _ hY2 hY3 (by omega) (by omega)).mono ?_
    rintro x w4 ⟨v4, rfl, hv4, m4, rfl⟩
    obtain rfl := hv4.out.2 rfl
    clear hv4 O2 O3 hY3
    have S4 := S3.drewN m4
    have B4 := below_drewN B3 m4
    have hX4 := hX3.drewN m4
    have hY4 := hY2.drewN m4
    clear S3 B3 hX3 hY2
    obtain ⟨s0, s1, s2, -⟩ := S4.cells
    by_cases hv : CallsOk o e m xs
    · have HOK := Lib.hid hv; clear hv
      go_wp2_with fail
      refine (spec_CallsValid o e m A1 n1 c1 xs _ hX4 hcap (by omega)).mono ?_
      rintro x w5 ⟨v5, rfl, hv5, b5⟩
      obtain rfl := hv5.out.2 HOK.out
      clear hv5 s0 s1 s2
      have S6 := S4.below b5
      have B6 := bstep B4 b5
      have hX6 := RdM.below hX4 b5 (Nat.le_refl _)
      have hY6 := hY4.below b5 (Nat.le_refl _)
      clear S4 B4 hX4 hY4
      obtain ⟨s0, s1, s2, -⟩ := S6.cells
      by_cases hf : LinesFree o e xs i q
      · have HF := Lib.hid hf; clear hf
        obtain ⟨hi0, hi1⟩ := HF.out.1
        obtain ⟨hq0, hq1⟩ := HF.out.2.1
        have z1 : decide (i < 0) = false := decide_eq_false (by omega)
        have z2 : decide (q < 0) = false := decide_eq_false (by omega)
        have z3 : decide (o * e ≤ i) = false := decide_eq_false (by omega)
        have z4 : decide (o * e ≤ q) = false := decide_eq_false (by omega)
        clear hi0 hi1 hq0 hq1
        go_wp2_with fail
        refine (busy_any A1 n1 c1 xs i q _ hX6 (by omega)).mono ?_
        rintro x w7 ⟨v7, rfl, hv7, m7, rfl⟩
        have hvf : v7 = false := by
          cases v7 with
          | false => rfl
          | true =>
            obtain ⟨c, hc1, hc2⟩ := hv7.out.1 rfl
            have := HF.out.2.2 c hc1
            rcases hc2 with h | h
            · exact absurd h this.1
            · exact absurd h this.2
        subst hvf
        clear hv7 s0 s1 s2
        go_wp2_with fail
        have hw6s := S6.lt
        go_loopg [9] n3 (fun g s9 wr => ∃ k : Nat, k ≤ n3 ∧ g = n3 - k ∧ s9 = .int .i64 k ∧ Below w5.heap.size w5 wr)
        case atStart => exact ⟨0, Nat.zero_le _, rfl, rfl, below_drewN (Below.refl _ _) m7⟩
        case round =>
          obtain ⟨k, hk, rfl, rfl, hbel⟩ := hrel
          have SO := S6.below hbel
          have BO := bstep B6 hbel
          have hx2 := RdM.below hX6 hbel (Nat.le_refl _)
          obtain ⟨s0, s1, s2, -⟩ := SO.cells
          by_cases hlt : k < n3
          · obtain ⟨bf, offf, v, rfl, HVF, gf⟩ := (hY6.below hbel (Nat.le_refl _)).at hlt
            have HOKV : Hid (CallsOk o e m (xs ++ [⟨i, q, v⟩])) := by
              have hm : v ∈ freeL o e m xs i q := by rw [HFS.out]; exact List.mem_of_getElem? HVF.out
              exact (mem_freeL.1 hm).2.2.2
            obtain ⟨w2, hw2⟩ : ∃ w2 : World, w2 = wr := ⟨_, rfl⟩
            subst hw2
            have hz2 := SO.lt
            have S2 := SO
            have hgf := World.block_lt_of_cell? _ _ gf
            have OA : OwnC (w2.alloc (.cells #[] 36)) w2.heap.size 36 (some ⟨w2.heap.size, 0, none⟩) 0 0 [] := OwnM.lit0 w2 (Nat.le_refl _)
            have OC : OwnC ((w2.alloc (.cells #[.int .i64 i, .int .i64 q, .int .i64 v] 36)).alloc (.cells #[] 36)) w2.heap.size 36 (some ⟨w2.heap.size + 1, 0, none⟩) 0 0 [] := by
              have := OwnM.lit0 (sz := 3) (emb := clv) (B := w2.heap.size) (e := 36) (w2.alloc (.cells #[.int .i64 i, .int .i64 q, .int .i64 v] 36)) (by simp)
              rwa [show (w2.alloc (.cells #[.int .i64 i, .int .i64 q, .int .i64 v] 36)).heap.size = w2.heap.size + 1 by simp] at this
            have XA := rdc_one w2 ⟨i, q, v⟩
            have XB := rdc_one' w2 (.cells #[] 36) ⟨i, q, v⟩
            go_wp2
            go_cut [92] (fun s92 wx => s92 = .bool false ∧ Below w2.heap.size w2 wx)
            case first =>
              go_region_held3 (fun w' => w'.cell? ⟨w1.heap.size, 0, none⟩ = some (.int .i64 o) ∧ w'.cell? ⟨w1.heap.size, 1, none⟩ = some (.int .i64 e) ∧ w'.cell? ⟨w1.heap.size, 2, none⟩ = some (.int .i64 m) ∧ w'.cell? ⟨bf, offf + k, none⟩ = some (iv v))
                (first | go_keep | exact ⟨by assumption, by assumption, by assumption, by assumption⟩)
                (first
                  | (refine step_appN _ rfl (.tmp 79) (.tmp 80) _ rfl clv_len (by omega) w2.heap.size 36 (.agg #[.int .i64 0, .int .i64 0, .int .i64 0]) 24 Try.underlying25 info_call rfl _ 0 0 [] rfl (by first | exact ownm_drew OA | exact ownm_drew (OwnM.alloc OA _) | exact ownm_drew OC) A1 n1 c1 xs rfl (by first | exact rdm_drew (hx2.below (below_box _ _) (Nat.le_refl _)) | exact rdm_drew ((hx2.below (below_box _ _) (Nat.le_refl _)).below (below_box _ _) (Nat.le_refl _))) clv_one n1 (by omega) xs rfl (by unfold maxLen; omega) (by omega) (by simp; try omega) ?_; intro A5 c5 w5x O5 G5 L5; have S5 : ShAt w5x w1.heap.size o e m := ShAt.grown (by first | exact (S2.alloc _).drew | exact ((S2.alloc _).alloc _).drew) G5 (by simp [blk]; omega); obtain ⟨s0', s1', s2', -⟩ := S5.cells; have B5 : Below w2.heap.size w2 w5x := bgrown (by first | exact (below_box w2 _).drew | exact (bstep (below_box w2 _) (below_box _ _)).drew) G5 (by simp; try omega) (by intro g hg; simp [blk] at hg; omega); have gf5 : w5x.cell? ⟨bf, offf + k, none⟩ = some (iv v) := (B5.cell (p := ⟨bf, offf + k, none⟩) hgf).trans gf; first | have X5 := RdM.grown (rdm_drew XB) G5 (by simp [blk]) | have X5 := RdM.grown (rdm_drew (XA.below (below_box _ _) (Nat.le_refl _))) G5 (by simp [blk]) | skip)
                  | (refine step_appN _ rfl (.tmp 81) (.tmp 89) _ rfl clv_len (by omega) w2.heap.size 36 (.agg #[.int .i64 0, .int .i64 0, .int .i64 0]) 24 Try.underlying25 info_call rfl A5 n1 c5 xs rfl (by first | exact O5 | exact OwnM.alloc O5 _) _ 1 1 [⟨i, q, v⟩] rfl (by first | exact X5 | exact rdc_one w5x ⟨i, q, v⟩) clv_one (n1 + 1) rfl (xs ++ [⟨i, q, v⟩]) rfl (by unfold maxLen; omega) (by omega) (by first | exact B5.size | (simp; have := B5.size; omega)) ?_; intro A6 c6 w6x O6 G6 L6; have S6x : ShAt w6x w1.heap.size o e m := ShAt.grown (by first | exact S5 | exact S5.alloc _) G6 (fun hh => by have := (OwnM.lt O5 hh.symm).1; omega); obtain ⟨s0', s1', s2', -⟩ := S6x.cells; have B6x : Below w2.heap.size w2 w6x := bgrown (by first | exact B5 | exact bstep B5 (below_box _ _)) G6 (by first | exact B5.size | (simp; have := B5.size; omega)) (fun g hg => (OwnM.lt O5 hg).1); have gf6 : w6x.cell? ⟨bf, offf + k, none⟩ = some (iv v) := (B6x.cell (p := ⟨bf, offf + k, none⟩) hgf).trans gf)
                  | (go_simp; go_at_call 22; (refine (impl_CallsValid o e m A6 (n1 + 1) c6 (xs ++ [⟨i, q, v⟩]) w6x (OwnC.rd O6) (OwnM.cap O6).1 (by omega)).mono ?_); rintro r w7x ⟨v7, rfl, HV7, b7⟩; (obtain rfl := HV7.out.2 HOKV.out); have S7 := S6x.below b7; obtain ⟨s0', s1', s2', -⟩ := S7.cells; have gf7 : w7x.cell? ⟨bf, offf + k, none⟩ = some (iv v) := (b7.cell (p := ⟨bf, offf + k, none⟩) (World.block_lt_of_cell? _ _ gf6)).trans gf6; go_wp2_with fail))
              all_goals
                go_wp2_with fail
                go_meet
                exact ⟨rfl, bstep B6x b7⟩
            case rest =>
              obtain ⟨rfl, b8⟩ := hcut
              go_wp2
              go_roundg (n3 - (k + 1))
              case rel => exact ⟨k + 1, by omega, rfl, by go_num, bstep hbel b8⟩
              case measure => omega
          · go_wp2_with fail
            refine (impl_Strict o e m _).mono ?_
            rintro x w7 ⟨rfl, b7⟩
            have B7 := bstep BO b7
            have hY7 := (hY6.below hbel (Nat.le_refl _)).below b7 (Nat.le_refl _)
            clear s0 s1 s2
            have HASC : Hid (Asc fs) := by
              show Asc fs
              rw [← HFS.out]; exact free_asc o e m xs i q
            cases hst : strictB o e m with
            | false =>
              clear hst
              go_wp2_with fail
              refine (ascend_any A2 n3 c2 fs _ hY7 (by omega)).mono ?_
              rintro x w8 ⟨v8, rfl, hv8, m8, rfl⟩
              obtain rfl := hv8.out.2 HASC.out
              clear hv8
              go_wp2
              go_ret
              exact ⟨rfl, below_drewN B7 _⟩
            | true =>
              have hpos : 0 < n3 := by
                have h1 := strict_free HOK.out (by simp [strictB] at hst; omega) HF.out
                rw [HFS.out] at h1
                rw [← hY7.len.out]
                exact List.length_pos_iff.2 h1
              clear hst
              go_wp2_with fail
              refine (ascend_any A2 n3 c2 fs _ hY7 (by omega)).mono ?_
              rintro x w8 ⟨v8, rfl, hv8, m8, rfl⟩
              obtain rfl := hv8.out.2 HASC.out
              clear hv8
              go_wp2
              go_ret
              exact ⟨rfl, below_drewN B7 _⟩
      · have hfn : fs = [] := by rw [← HFS.out]; exact freeL_nil (fun h => hf h.2)
        subst hfn
        obtain rfl : n3 = 0 := by have h := hY6.len.out; simp at h; exact h.symm
        have HNF := Lib.hid hf; clear hf
        by_cases h1 : i < 0
        · have z1 : decide (i < 0) = true := decide_eq_true h1
          go_wp2_with fail
          refine (alive_any _).mono ?_
          rintro x w9 ⟨rfl, b9⟩
          go_wp2
          go_ret
          exact ⟨rfl, bstep B6 b9⟩
        · have z1 : decide (i < 0) = false := decide_eq_false h1
          by_cases h2 : q < 0
          · have z2 : decide (q < 0) = true := decide_eq_true h2
            go_wp2_with fail
            refine (alive_any _).mono ?_
            rintro x w9 ⟨rfl, b9⟩
            go_wp2
            go_ret
            exact ⟨rfl, bstep B6 b9⟩
          · have z2 : decide (q < 0) = false := decide_eq_false h2
            by_cases h3 : o * e ≤ i
            · have z3 : decide (o * e ≤ i) = true := decide_eq_true h3
              go_wp2_with fail
              refine (alive_any _).mono ?_
              rintro x w9 ⟨rfl, b9⟩
              go_wp2
              go_ret
              exact ⟨rfl, bstep B6 b9⟩
            · have z3 : decide (o * e ≤ i) = false := decide_eq_false h3
              by_cases h4 : o * e ≤ q
              · have z4 : decide (o * e ≤ q) = true := decide_eq_true h4
                go_wp2_with fail
                refine (alive_any _).mono ?_
                rintro x w9 ⟨rfl, b9⟩
                go_wp2
                go_ret
                exact ⟨rfl, bstep B6 b9⟩
              · have z4 : decide (o * e ≤ q) = false := decide_eq_false h4
                have HBUSY : Hid (∃ c ∈ xs, c.i = i ∨ c.o = q) := by
                  show ∃ c ∈ xs, c.i = i ∨ c.o = q
                  by_cases hx : ∃ c ∈ xs, c.i = i ∨ c.o = q
                  · exact hx
                  · exact absurd (show LinesFree o e xs i q from ⟨⟨by omega, by omega⟩, ⟨by omega, by omega⟩, fun c hc => ⟨fun h => hx ⟨c, hc, .inl h⟩, fun h => hx ⟨c, hc, .inr h⟩⟩⟩) HNF.out
                go_wp2_with fail
                refine (busy_any A1 n1 c1 xs i q _ hX6 (by omega)).mono ?_
                rintro x w7 ⟨v7, rfl, hv7, m7, rfl⟩
                obtain rfl := hv7.out.2 HBUSY.out
                clear hv7
                go_wp2_with fail
                refine (alive_any _).mono ?_
                rintro x w9 ⟨rfl, b9⟩
                go_wp2
                go_ret
                exact ⟨rfl, bstep (below_drewN B6 m7) b9⟩
    · have HOK := Lib.hid hv
      have hfn : fs = [] := by rw [← HFS.out]; exact freeL_nil (fun h => hv h.1)
      subst hfn
      obtain rfl : n3 = 0 := by have h := hY4.len.out; simp at h; exact h.symm
      clear hv
      go_wp2_with fail
      refine (spec_CallsValid o e m A1 n1 c1 xs _ hX4 hcap (by omega)).mono ?_
      rintro x w5 ⟨v5, rfl, hv5, b5⟩
      have hvf : v5 = false := by
        cases v5 with
        | false => rfl
        | true => exact absurd (hv5.out.1 rfl) HOK.out
      subst hvf
      clear hv5 s0 s1 s2
      go_wp2_with fail
      refine (alive_any _).mono ?_
      rintro x w9 ⟨rfl, b9⟩
      go_wp2
      go_ret
      exact ⟨rfl, bstep (bstep B4 b5) b9⟩
  · go_enter Try.func10, Try.ntmps10
    go_wp2
    go_ret
    exact ⟨rfl, Below.refl _ _⟩
set_option maxRecDepth 100000 in
theorem lifted (os : Os) (started : os.Started) (H : Type) (enc : TypeId × Value → H) :
    ReturnsInHanded {} Try.checked os 10 .any (Rows.fnMiddleFreeSpec.pre6 enc Try.prog Try.f10 Rows.fnMiddleFreeRow.domain false) (Rows.fnMiddleFreeSpec.post enc Try.prog Try.f10 false true false false) := by
  refine returnsInHanded_of_change (C := Try.checked) own started (by kernel_rfl) Try.func10
    (ChangeSpec.witness6 (enc := enc) (C := Try.checked) false ⟨#[], #[.slice none 0 0], []⟩ 8 (by kernel_rfl) (by kernel_rfl) (by kernel_rfl) (by kernel_rfl)) ?_
  intro W base args ds gs before hval0 hW hcnd _
  have hval : ∀ (j : Nat) t v, Try.f10.params[j]? = some t → args[j]? = some v → Value.okWide Try.prog W .any base t v := hval0
  have hW' := hW
  obtain ⟨p, q, hA0, hV, rfl, hfz, hnd⟩ := hW
  have hA : DataW.TrodAll enc Try.prog W 0 (fun _ => true) true Try.f10.params.toList args.toList ds p := hA0
  rw [Try.params10] at hA hval
  obtain ⟨v0, vs0, d0, ds0, p0, q0, hargs, rfl, rfl, k0, r0⟩ := trodAll_cons hA
  obtain ⟨rfl, rfl, rfl⟩ := trodAll_nil r0
  obtain rfl : args = #[v0] := by cases args; simp_all
  obtain ⟨rfl, rfl⟩ := trodVars_none hV
  have lt0 : ∀ x ∈ p0, x.block < W.heap.size := by obtain ⟨m, hm⟩ := k0; exact DataW.trod_lt m _ _ _ hm
  obtain ⟨a0, n0, c0, rfl⟩ := okWide_slice Try.underlying22 (hval 0 22 v0 rfl rfl)
  obtain ⟨z0, f0⟩ := open_bytes (W := W) k0
  clear hA0 hval0
  refine (walk a0 n0 c0 z0 W f0).mono fun e W' ⟨he, bel⟩ => ?_
  subst he
  exact ⟨_, rfl, _, _, _, [], _, [], hW', trodAll_mk1 (shut_bool Try.underlying4 _), (trodAll_cons_mk (Below.trod laidOut (by kernel_rfl) (of_decide_eq_true (by kernel_rfl)) k0 bel lt0) trodAll_mk0), rfl, bel.frame _, fun h => by cases h⟩
theorem closed : joinedFacts Try.pinned.checked.prog 10 Try.f10 Rows.fnMiddleFreeSpec Rows.fnMiddleFreeRow = true := by
  unfold joinedFacts
  repeat' (with_reducible refine Bool.and_eq_true_iff.2 ⟨?_, ?_⟩)
  · kernel_rfl
  · exact laidOut
  · kernel_rfl
  · kernel_rfl
  · kernel_rfl
  · kernel_rfl
  · kernel_rfl
  · kernel_rfl
  · kernel_rfl
  · kernel_rfl
  · kernel_rfl
  · kernel_rfl
  · kernel_rfl
  · kernel_rfl
  · kernel_rfl
  · kernel_rfl
  · kernel_rfl
  · kernel_rfl
  · kernel_rfl
  · kernel_rfl
  · kernel_rfl
  · kernel_rfl
  · kernel_rfl
  · kernel_rfl
  · kernel_rfl
  · exact heavy.1
  · exact heavy.2.1
  · exact heavy.2.2
  · kernel_rfl
  · kernel_rfl
  · kernel_rfl
  · kernel_rfl
theorem over : Rows.fnMiddleFreeRow.holds Try.pinned (OpenSpec.ofChange Rows.fnMiddleFreeSpec) :=
  OpenClaim.holds_of_wide 10 Try.f10 rfl rfl rfl rfl rfl rfl rfl ⟨rfl, rfl, rfl, rfl, rfl⟩ rfl rfl rfl rfl rfl (by kernel_rfl) Try.func10 closed
    (of_decide_eq_true (by kernel_rfl)) (by unfold Func.isWrapper; first | (rw [if_pos (by decide +kernel)]; kernel_rfl) | (rw [if_neg (by decide +kernel)]; exact ⟨rfl, rfl⟩))
    (fun os started H enc _ => lifted os started H enc)
theorem proved : Rows.FnMiddleFreeSaid := over
#print axioms proved
end Go.Proofs.Ytcickfahpcmcdaa.middleFree
