/- restMatches of the program: whether the inputs from one on can all be served. Condition: at most 6 inputs, numbers from 0 to 1000. -/
import Derived.Test.Ythfjlellaojdmaa5w
namespace Go.Proofs.Ythfjlellaojdmaa
open Go.RowKit
set_option linter.unusedSimpArgs false
set_option linter.unusedVariables false
theorem fwOk_new (n : Nat) : FwOk n (List.replicate n (-1)) := by
  refine ⟨by simp, fun c x hx => ?_⟩
  rw [List.getElem?_replicate] at hx
  split at hx
  · injection hx with hx; omega
  · cases hx
theorem rest_next {n : Nat} {P : Nat → Nat → Bool} {T : List Bool} {fr k : Nat} {ow : List Int} (h : restTo n P T fr k = some ow) (hb : (fw n P n (fr + k) T ow).1 = true) : restTo n P T fr (k + 1) = some (fw n P n (fr + k) T ow).2.2 := by
  show (match restTo n P T fr k with | none => none | some ow => if (fw n P n (fr + k) T ow).1 = true then some (fw n P n (fr + k) T ow).2.2 else none) = _
  rw [h]; simp [hb]
theorem rest_out {n : Nat} {P : Nat → Nat → Bool} {T : List Bool} {fr k : Nat} {ow : List Int} (h : restTo n P T fr k = some ow) (hb : (fw n P n (fr + k) T ow).1 = false) : restTo n P T fr (k + 1) = none := by
  show (match restTo n P T fr k with | none => none | some ow => if (fw n P n (fr + k) T ow).1 = true then some (fw n P n (fr + k) T ow).2.2 else none) = _
  rw [h]; simp [hb]
set_option maxRecDepth 100000 in
set_option maxHeartbeats 2000000 in
theorem impl_restMatches (A : Option Addr) (n c : Nat) (BB : Nat → Nat → Int) (B F Bt gt ct fr : Nat) (T : List Bool) (w : World) (hn : n ≤ 6) (hb : Bd n BB 0 1000)
    (hT : OwnT w B F A n c (tabF n BB)) (hU : OwnL bv w Bt 4 (some ⟨gt, 0, none⟩) n ct T) (hF : F ≤ w.heap.size) (hfr : fr ≤ n) :
    Calls Try.prog 62 #[.slice A n c, .int .i64 fr, .slice (some ⟨gt, 0, none⟩) n ct] w (RetM (Mat n (posP BB) T fr) w) := by
  have hTl := hU.len
  have HB := Lib.hid hb; clear hb
  have HM : Hid ((restTo n (posP BB) T fr (n - fr)).isSome = true ↔ Mat n (posP BB) T fr) := rest_iff hTl.out hfr
  have hgt := (hU.lt (g := gt) rfl).2
  have hmk := run_make_row' (P := Try.prog) 30 3 (.int .i64 0) 8 Try.underlying30 info_int rfl .i64 .i64 n (by omega) (by omega)
  go_enter Try.func62, Try.ntmps62
  go_wp2
  clear hmk
  go_loopg [16] n (fun g i wr => ∃ o : Nat, o ≤ n ∧ g = n - o ∧ i = .int .i64 o ∧ OwnL iv wr w.heap.size 3 (some ⟨w.heap.size, 0, none⟩) n n ((List.replicate n (-1)).take o ++ List.replicate (n - o) 0) ∧ Below w.heap.size w wr)
  case atStart => exact ⟨0, Nat.zero_le _, rfl, rfl, OwnL.made (emb := iv) (e := 3) w (0 : Int) n (by unfold maxLen; omega) w.heap.size (Nat.le_refl _), below_box w _⟩
  case round =>
    obtain ⟨o, ho, rfl, rfl, hO, hbel⟩ := hrel
    by_cases hlt : o < n
    · obtain ⟨g1, y1, hA, p1, p2, HY1, p3, p4⟩ := hO.at hlt
      injection hA with hA; injection hA with hA; subst hA
      have hO2 := hO.set o (-1)
      rw [set_fill (by simp) hlt (by simp [hlt])] at hO2
      go_wp2
      go_roundg (n - (o + 1))
      case rel => exact ⟨o + 1, by omega, rfl, by go_num, hO2, hbel.setCell (Nat.le_refl _) _⟩
      case measure => omega
    · obtain rfl : n = o := by omega
      have hO' : OwnL iv wr w.heap.size 3 (some ⟨w.heap.size, 0, none⟩) n n (List.replicate n (-1)) := by
        rw [Nat.sub_self, List.take_of_length_le (by simp)] at hO; simpa using hO
      clear hO
      go_wp2
      go_loopg [9] (n - fr) (fun g s9 wr => ∃ (k : Nat) (ow : List Int), k ≤ n - fr ∧ g = n - fr - k ∧ s9 = .int .i64 ((fr + k : Nat) : Int) ∧ OwnL iv wr w.heap.size 3 (some ⟨w.heap.size, 0, none⟩) n n ow ∧ Hid (restTo n (posP BB) T fr k = some ow ∧ FwOk n ow) ∧ Below w.heap.size w wr)
      case atStart => exact ⟨0, _, Nat.zero_le _, rfl, rfl, hO', ⟨rfl, fwOk_new n⟩, hbel⟩
      case round =>
        clear hO' hbel
        obtain ⟨k, ow, hk, rfl, rfl, hO, HR, hbel⟩ := hrel
        obtain ⟨ix, hix⟩ : ∃ ix, fr + k = ix := ⟨_, rfl⟩
        rw [hix]
        have HIX := Lib.hid hix
        by_cases hlt : k < n - fr
        · have hixn : ix < n := by omega
          have hmk := run_make_row' (P := Try.prog) 40 4 (.bool false) 1 Try.underlying40 info_bool rfl .i64 .i64 n (by omega) (by omega)
          have hz := hbel.size
          have hW0 := OwnL.made (emb := bv) (e := 4) wr false n (by unfold maxLen; omega) wr.heap.size (Nat.le_refl _)
          have hbA := bbox hbel hz (.cells (madeCells #[bv false] n) 4)
          have hUA := (hU.rd).below hbA (Nat.le_refl _)
          clear hix
          go_wp2_with (with_reducible refine wpList_copyL rfl (.tmp 33) (.tmp 34) _ _ rfl 4 (.bool false) 1 Try.underlying40 info_bool (fun _ => rfl) wr.heap.size wr.heap.size n n ct _ T rfl hW0 (some ⟨gt, 0, none⟩) rfl hUA ?_)
          intro w3 hW3 G3
          have z3 := G3.size
          simp at z3
          have b3 : Below w.heap.size w w3 := bgrown hbA G3 (by simp; omega) (fun g hg => by injection hg; omega)
          have hO3 := (hO.alloc (.cells (madeCells #[bv false] n) 4)).grown G3 (fun g hg hb => by injection hg with hg; rw [blk_some] at hb; injection hb with hb; have := (hO.lt (g := w.heap.size) rfl).2; omega)
          have hT3 := hT.below b3 (Nat.le_refl _)
          have hOz := (hO.lt (g := w.heap.size) rfl).2
          clear hmk hW0 hUA hbA
          go_wp2_with fail
          refine (impl_findWay A n c BB B F wr.heap.size w.heap.size wr.heap.size n w.heap.size n hn HB.out (by omega) hF (by omega) n ix T ow w3 hixn hTl.out HR.out.2 (by have := untr_le T; have := hTl.out; omega) hT3 hW3 hO3).mono ?_
          obtain ⟨R, HRR⟩ : ∃ R, Hid (fw n (posP BB) n ix T ow = R) := ⟨_, rfl⟩
          rw [HRR.out]
          rintro e w5 ⟨rfl, HL5, hU5, hO5, hT5, hk5⟩
          have b5 : Below w.heap.size w w5 := Kb.below_of b3 hk5 b3.size (fun g h1 h2 => by rcases h2 with h2 | h2 <;> omega)
          obtain ⟨rb, rt, ro⟩ := R
          cases rb with
          | true =>
            have HN : Hid (restTo n (posP BB) T fr (k + 1) = some ro) := by
              show _ = _
              have h1 := rest_next HR.out.1 (by rw [HIX.out, HRR.out])
              rw [HIX.out, HRR.out] at h1
              exact h1
            go_wp2
            go_roundg (n - fr - (k + 1))
            case rel => exact ⟨k + 1, ro, by omega, rfl, by have := HIX.out; go_num, hO5, ⟨HN.out, HL5.out.2.2⟩, b5⟩
            case measure => omega
          | false =>
            have HN : Hid (¬ Mat n (posP BB) T fr) := fun hm => by
              have h1 := rest_out HR.out.1 (by rw [HIX.out, HRR.out])
              have h2 := rest_none_up h1 (n - fr - (k + 1))
              rw [show k + 1 + (n - fr - (k + 1)) = n - fr by omega] at h2
              have h3 := HM.out.2 hm
              rw [h2] at h3; cases h3
            go_wp2
            go_ret
            exact RetM.no HN.out b5
        · have hixn : n ≤ ix := by omega
          have hixz : decide (ix < n) = false := by simp; omega
          have HN : Hid (Mat n (posP BB) T fr) := by
            obtain rfl : k = n - fr := by omega
            exact HM.out.1 (by rw [HR.out.1]; rfl)
          clear hix
          go_wp2
          go_ret
          exact RetM.yes HN.out hbel
end Go.Proofs.Ythfjlellaojdmaa
