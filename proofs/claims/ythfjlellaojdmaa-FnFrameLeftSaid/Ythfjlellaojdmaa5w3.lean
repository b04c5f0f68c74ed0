/- leastMatch of the program: the least permutation that uses only what a table has, where there is one. Condition: at most 6 inputs, numbers from 0 to 1000. -/
import Derived.Test.Ythfjlellaojdmaa5w2
import Derived.Test.Ythfjlellaojdmaa5g3
namespace Go.Proofs.Ythfjlellaojdmaa
open Go.RowKit
set_option linter.unusedSimpArgs false
set_option linter.unusedVariables false
theorem least_of {n k : Nat} {P : Nat → Nat → Bool} {p0 : List Int} {T : List Bool} (hg : GreedyP n P p0) (hk : k ≤ n) (hT : TakenOf n (p0.take k) T) : LeastTo n P (p0.take k) T := by
  have ht : ∀ {i : Nat} {x : Int}, (p0.take k)[i]? = some x → i < k ∧ p0[i]? = some x := fun {i x} hx => by
    rw [List.getElem?_take] at hx
    split at hx
    · exact ⟨by assumption, hx⟩
    · cases hx
  refine ⟨by rw [List.length_take]; omega, hg.1.2.1.sublist (List.take_sublist k p0), fun x hx => hg.1.2.2 x (List.mem_of_mem_take hx), fun i x hx => hg.2.1 i x (ht hx).2, hT, fun i x o hx h0 hlt => ?_, .inr ⟨p0.drop k, ?_⟩⟩
  · obtain ⟨h1, h2⟩ := ht hx
    have h3 := hg.2.2 i x o h2 h0 hlt
    rw [List.take_take, Nat.min_eq_left (by omega)]
    exact h3
  · rw [List.take_append_drop]; exact ⟨hg.1, hg.2.1⟩
theorem least_nt {n k v : Nat} {P : Nat → Nat → Bool} {p0 : List Int} {T : List Bool} (hg : GreedyP n P p0) (hv : p0[k]? = some (v : Int)) (hvn : v < n) (hT : TakenOf n (p0.take k) T) {u : Bool} (hu : T[v]? = some u) : u = false := by
  cases u with
  | false => rfl
  | true =>
    exfalso
    have h1 := (hT.2 v hvn).1 (getD_is hu)
    obtain ⟨j, hj, he⟩ := mem_take_at h1
    have hnd := hg.1.2.1
    unfold List.Nodup at hnd
    exact pairwise_at hnd he hv hj rfl
theorem run_make_capM {P : Program} (t e : TypeId) (z : Value) (sz bytes : Nat) (ht : P.underlying t = some (.slice e)) (hinfo : (P.info? e).map (fun i => (i.zero, i.size, i.bytes)) = some (some z, sz, bytes))
    (kl kc : IntKind) (n c : Nat) (hnc : n ≤ c) (hbytes : bytes * c ≤ 281474976710656) (h63 : c ≤ 9223372036854775807) (w : World) :
    (Instr.makeSlice t (.int kl (n : Int)) (.int kc (c : Int))).run P w = .ok (.slice (some ⟨w.heap.size, 0, none⟩) n c) (w.alloc (.cells (madeCells z.cells (c * sz)) e)) := by
  obtain ⟨i, hi, hz, hs, hb⟩ := info_parts hinfo
  have hb' : (i.bytes : Int) * (c : Int) ≤ 281474976710656 := by
    have h : ((i.bytes * c : Nat) : Int) ≤ 281474976710656 := by rw [hb]; omega
    rwa [Int.natCast_mul] at h
  have hr := run_make (P := P) w t e i z ht hi hz kl kc n c (by omega) (by omega) hb' (by omega)
  simp only [Int.toNat_natCast, hs] at hr
  exact hr

theorem OwnL.made0 {α : Type} {emb : α → Value} {e : TypeId} (w : World) (z : α) (n : Nat) (hn : n ≤ maxLen) : OwnL emb (w.alloc (.cells (madeCells #[emb z] n) e)) w.heap.size e (some ⟨w.heap.size, 0, none⟩) 0 n [] := by
  have h := (OwnL.made (emb := emb) (e := e) w z n hn w.heap.size (Nat.le_refl _)).tops (n' := 0) (Nat.zero_le _)
  simpa using h
set_option maxRecDepth 100000 in
set_option maxHeartbeats 2000000 in
theorem impl_leastMatch (A : Option Addr) (n c : Nat) (BB : Nat → Nat → Int) (B F : Nat) (p0 : List Int) (w : World) (hn : n ≤ 6) (hb : Bd n BB 0 1000) (hT : OwnT w B F A n c (tabF n BB)) (hF : F ≤ w.heap.size) (hg : GreedyP n (posP BB) p0) :
    Calls Try.prog 49 #[.slice A n c] w fun e w' => ∃ A' c', e = .returned (.tuple #[.slice A' n c', .bool true]) ∧ OwnL iv w' w.heap.size 3 A' n c' p0 ∧ Below w.heap.size w w' := by
  have HB := Lib.hid hb; clear hb
  have HG := Lib.hid hg; clear hg
  have hmk0 : ∀ W : World, (Instr.makeSlice 30 (.int .i64 0) (.int .i64 (n : Int))).run Try.prog W = .ok (.slice (some ⟨W.heap.size, 0, none⟩) 0 n) (W.alloc (.cells (madeCells #[.int .i64 0] n) 3)) := fun W => by
    have h := run_make_capM (P := Try.prog) 30 3 (.int .i64 0) 1 8 Try.underlying30 info_int .i64 .i64 0 n (by omega) (by omega) (by omega) W
    simpa [Value.cells] using h
  have hmk := run_make_row' (P := Try.prog) 40 4 (.bool false) 1 Try.underlying40 info_bool rfl .i64 .i64 n (by omega) (by omega)
  go_enter Try.func49, Try.ntmps49
  go_wp2
  clear hmk hmk0
  go_loopg [4, 19] n (fun g s4 s19 wr => ∃ (k : Nat) (A4 : Option Addr) (c4 : Nat) (T : List Bool), k ≤ n ∧ g = n - k ∧ s19 = .int .i64 k ∧ s4 = .slice A4 k c4 ∧ OwnL iv wr w.heap.size 3 A4 k c4 (p0.take k) ∧ (∀ b, blk A4 = some b → b ≠ w.heap.size + 1) ∧ OwnL bv wr w.heap.size 4 (some ⟨w.heap.size + 1, 0, none⟩) n n T ∧ Hid (TakenOf n (p0.take k) T) ∧ Below w.heap.size w wr)
  case atStart =>
    have h1 := OwnL.made0 (emb := iv) (e := 3) w (0 : Int) n (by unfold maxLen; omega)
    have h2 := OwnL.made (emb := bv) (e := 4) (w.alloc (.cells (madeCells #[iv 0] n) 3)) false n (by unfold maxLen; omega) w.heap.size (by simp)
    exact ⟨0, _, _, _, Nat.zero_le _, rfl, rfl, rfl, by simpa using h1.alloc _, fun b hb => by rw [blk_some] at hb; injection hb; omega, by simpa using h2, taken_nil n, bbox (below_box w _) (by simp) _⟩
  case round =>
    obtain ⟨k, A4, c4, T, hk, rfl, rfl, rfl, hp, hA4, hU, HT, hbel⟩ := hrel
    by_cases hlt : k < n
    · obtain ⟨v, hvn, hv0⟩ := pm_nat HG.out.1 hlt
      have HV := Lib.hid hv0; clear hv0
      have HLS : Hid (LeastTo n (posP BB) (p0.take k) T) := least_of HG.out hk HT.out
      have HKL : Hid ((p0.take k).length = k) := by show _ = _; rw [List.length_take, HG.out.1.1]; omega
      obtain ⟨g, gk, ck, y, hA, q1, q2, q3, q4, q5, q6, q7, q8, q9, HY, q10, q11, HP⟩ := hT.atF hlt hlt
      subst hA
      have q4r := (hbel.cell (p := ⟨g, k, none⟩) q2).trans q4
      clear HY q10 q11 HP q8 q9 q1 q3
      go_wp2
      clear q4r
      go_loopg [4, 26] n (fun g' s4 s26 wr => ∃ o : Nat, o ≤ v ∧ g' = n - o ∧ s26 = .int .i64 o ∧ s4 = .slice A4 k c4 ∧ OwnL iv wr w.heap.size 3 A4 k c4 (p0.take k) ∧ OwnL bv wr w.heap.size 4 (some ⟨w.heap.size + 1, 0, none⟩) n n T ∧ Below w.heap.size w wr)
      case atStart => exact ⟨0, Nat.zero_le _, rfl, rfl, rfl, hp, hU, hbel⟩
      case round =>
        clear hp hU hbel
        obtain ⟨o, hov, rfl, rfl, rfl, hp, hU, hbel⟩ := hrel
        have hz := hbel.size
        have hon : o < n := by omega
        obtain ⟨g', gk', ck', y, hA, r1, r2, r3, r4, r5, r6, r7, r8, r9, HY, r10, r11, HP⟩ := hT.atF hlt hon
        injection hA with hA; injection hA with hA; subst hA
        rw [q4] at r4
        injection r4 with r4; injection r4 with r41 r42 r43; injection r41 with r41; injection r41 with r41; subst r41 r43
        have r10' := (hbel.cell (p := ⟨gk, o, none⟩) r7).trans r10
        clear r42 HP r10 r11 r1 r2 r3 r6 r8 r9
        have hyb : 0 ≤ y ∧ y ≤ 1000 := by rw [← HY.out]; exact HB.out k o hlt hon
        obtain ⟨hy0, hy1⟩ := hyb
        obtain ⟨gu, u, hA, s1, s2, HU, s3, s4⟩ := hU.at hon
        injection hA with hA; injection hA with hA; subst hA
        by_cases hovn : o < v
        · by_cases hy : y ≤ 0
          · go_wp2
            go_roundg (n - (o + 1))
            case rel => exact ⟨o + 1, by omega, rfl, by go_num, rfl, hp, hU, hbel⟩
            case measure => omega
          · have hyz : decide (y ≤ 0) = false := by simpa using hy
            cases u with
            | true =>
              go_wp2
              go_roundg (n - (o + 1))
              case rel => exact ⟨o + 1, by omega, rfl, by go_num, rfl, hp, hU, hbel⟩
              case measure => omega
            | false =>
              have HNM : Hid (¬ Mat n (posP BB) (T.set o true) (k + 1)) := fun hm => by
                have h1 := least_try HLS.out hon (by rw [HKL.out]; unfold posP; rw [HY.out]; simp; omega) (getD_is HU.out) (by rw [HKL.out]; exact hlt)
                rw [HKL.out] at h1
                exact HG.out.2.2 k v o HV.out (by omega) (by omega) (h1.1 hm)
              have HTB : Hid ((T.set o true).set o false = T) := by
                show _ = _
                refine taken_back HT.out hon (fun hm => ?_)
                have h1 := (HT.out.2 o hon).2 hm
                rw [getD_is HU.out] at h1; cases h1
              have hU1 := hU.set o true
              have hp1 := hp.far ⟨w.heap.size + 1, o, none⟩ (.bool true) (fun e => hA4 _ e rfl)
              have hb1 := hbel.setCell (p := ⟨w.heap.size + 1, o, none⟩) (Nat.le_succ _) (.bool true)
              go_wp2_with fail
              refine (impl_restMatches (some ⟨g, 0, none⟩) n c BB B F w.heap.size (w.heap.size + 1) n (k + 1) (T.set o true) _ hn HB.out (hT.below hb1 (Nat.le_refl _)) hU1 (by simpa [World.setCell] using Nat.le_trans hF hz) (by omega)).mono ?_
              rintro e w5 ⟨b, rfl, hb5, b5⟩
              have hbf : b = false := by
                cases b with
                | false => rfl
                | true => exact absurd (hb5.out.1 rfl) HNM.out
              subst hbf
              clear hb5
              have hU5 := hU1.below b5 (Nat.le_refl _)
              have hp5 := hp1.below b5 (Nat.le_refl _)
              have hb5 := bstep hb1 b5
              clear hU1 hp1 hb1 hU hp hbel s1 s2 s3 s4 r10'
              obtain ⟨gu, u', hA, s1, s2, HU', s3, s4⟩ := hU5.at hon
              injection hA with hA; injection hA with hA; subst hA
              have hU6 := hU5.set o false
              rw [HTB.out] at hU6
              have hp6 := hp5.far ⟨w.heap.size + 1, o, none⟩ (.bool false) (fun e => hA4 _ e rfl)
              have hb6 := hb5.setCell (p := ⟨w.heap.size + 1, o, none⟩) (Nat.le_succ _) (.bool false)
              go_wp2
              go_roundg (n - (o + 1))
              case rel => exact ⟨o + 1, by omega, rfl, by go_num, rfl, hp6, hU6, hb6⟩
              case measure => omega
        · obtain rfl : o = v := by omega
          have HPo : Hid (posP BB k o = true) := by
            have h1 := HG.out.2.1 k _ HV.out
            show _ = _
            simpa using h1
          have hy : 0 < y := by have h1 := HPo.out; unfold posP at h1; rw [HY.out] at h1; simpa using h1
          have hyz : decide (y ≤ 0) = false := by simp; omega
          obtain rfl := least_nt HG.out HV.out hon HT.out HU.out
          have HYM : Hid (Mat n (posP BB) (T.set o true) (k + 1)) := by
            have h1 := least_try HLS.out hon (by rw [HKL.out]; exact HPo.out) (getD_is HU.out) (by rw [HKL.out]; exact hlt)
            rw [HKL.out] at h1
            exact h1.2 (ext_of HG.out.1 HG.out.2.1 HV.out)
          have hU1 := hU.set o true
          have hp1 := hp.far ⟨w.heap.size + 1, o, none⟩ (.bool true) (fun e => hA4 _ e rfl)
          have hb1 := hbel.setCell (p := ⟨w.heap.size + 1, o, none⟩) (Nat.le_succ _) (.bool true)
          go_wp2_with fail
          refine (impl_restMatches (some ⟨g, 0, none⟩) n c BB B F w.heap.size (w.heap.size + 1) n (k + 1) (T.set o true) _ hn HB.out (hT.below hb1 (Nat.le_refl _)) hU1 (by simpa [World.setCell] using Nat.le_trans hF hz) (by omega)).mono ?_
          rintro e w5 ⟨b, rfl, hb5, b5⟩
          have hbf : b = true := hb5.out.2 HYM.out
          subst hbf
          clear hb5
          have hU5 := hU1.below b5 (Nat.le_refl _)
          have hp5 := hp1.below b5 (Nat.le_refl _)
          have hb5 := bstep hb1 b5
          have hz5 := hb5.size
          have hsU := (hU5.lt (g := w.heap.size + 1) rfl).2
          clear hU1 hp1 hb1 hU hp hbel s1 s2 s3 s4 r10' b5
          go_wp2_with (first
            | (at_builtin; refine wpList_appLN (emb := iv) _ rfl (.tmp 47) (.tmp 49) _ rfl w.heap.size 3 (.int .i64 0) 8 Try.underlying30 info_int rfl A4 k c4 (p0.take k) rfl (hp5.alloc _) _ 1 1 [(o : Int)] rfl (rd_int _ _) (fun _ => rfl) (k + 1) rfl _ rfl (by unfold maxLen; omega) (by omega) (by simp; omega) ?_; intro A6 c6 w6 O6 G6 L6)
            | fail)
          rw [← take_snoc HV.out] at O6
          have z6 := G6.size
          simp at z6
          have hU6 := (hU5.alloc (.cells #[.int .i64 (o : Int)] 3)).grown G6 (fun g hg hb => by rw [blk_some] at hb; injection hb with hb; exact hA4 g hg hb.symm)
          have hA6 : ∀ b, blk A6 = some b → b ≠ w.heap.size + 1 := fun b hb => by
            rcases L6 with e | e
            · rw [e] at hb; exact hA4 b hb
            · rw [e] at hb; injection hb with hb; simp at hb; omega
          have hb6 : Below w.heap.size w w6 := bgrown (bbox hb5 hz5 _) G6 (by simp; omega) (fun g hg => (hp5.lt hg).1)
          go_roundg (n - (k + 1))
          case rel => exact ⟨k + 1, A6, c6, T.set o true, by omega, rfl, by go_num, rfl, O6, hA6, hU6, by show TakenOf _ _ _; rw [take_snoc HV.out]; exact taken_snoc HT.out hon, hb6⟩
          case measure => omega
    · go_wp2
      go_ret2
      obtain rfl : k = n := by omega
      rw [List.take_of_length_le (by rw [HG.out.1.1]; exact Nat.le_refl _)] at hp
      exact ⟨A4, c4, rfl, hp, hbel⟩
end Go.Proofs.Ythfjlellaojdmaa
