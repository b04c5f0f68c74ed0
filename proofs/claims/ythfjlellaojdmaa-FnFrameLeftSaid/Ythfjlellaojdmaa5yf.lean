/- l20Frame: a drawn table and a drawn frame are small; and the draws of a frame. Condition: fewer than 600000 picks so far. -/
import Derived.Test.Ythfjlellaojdmaa5z
import Derived.Deep.RegionHeld3
import Derived.Deep.RegionWith
namespace Go.Proofs.Ythfjlellaojdmaa
open Go.RowKit
set_option linter.unusedSimpArgs false
set_option linter.unusedVariables false
/-- A frame that is small. -/
def FrSz (rows : List (List Int)) : Prop := rows.length ≤ 216 ∧ ∀ r ∈ rows, r.length ≤ 6
theorem FrSz.nil : FrSz [] := ⟨by simp, by simp⟩
theorem FrSz.set {rows : List (List Int)} {k j : Nat} {r : List Int} {v : Int} (h : FrSz rows) (hr : rows[k]? = some r) : FrSz (rows.set k (r.set j v)) := by
  refine ⟨by rw [List.length_set]; exact h.1, fun x hx => ?_⟩
  rcases List.mem_or_eq_of_mem_set hx with h1 | h1
  · exact h.2 x h1
  · subst h1; rw [List.length_set]; exact h.2 r (List.mem_of_getElem? hr)
theorem FrSz.sm {rows : List (List Int)} (h : FrSz rows) : SmT rows := by
  have h1 := flat_const (rows := rows) (m := 6) h.2
  have h2 := h.1
  exact ⟨by omega, by omega⟩
theorem FrSz.snoc {rows : List (List Int)} (h : FrSz rows) : SmT (rows ++ [[0]]) := by
  have h1 := flat_const (rows := rows) (m := 6) h.2
  have h2 := h.1
  refine ⟨by rw [List.length_append]; simp; omega, ?_⟩
  rw [flat_snoc]; simp; omega
theorem greedy_sz {t : List (List Int)} : FrSz (greedyL t) := by
  by_cases hT : TrafOk t
  · obtain ⟨s, hs⟩ := greedy_end hT.bd6
    have h1 := GEnd.le hT.bd6 hs.2
    have h2 := allS_bd hT.six hT.bd6
    have h3 := allS_bd hT.six (gL_bd hT.bd6 s)
    rw [greedyL_yes hT hs]
    exact ⟨by rw [gFr_len]; omega, fun r hr => by rw [(gFr_ok _ _ _ r hr).1]; exact hT.six⟩
  · rw [greedyL_no hT]; exact FrSz.nil
theorem best_sz {t : List (List Int)} : FrSz (bestL t) := by
  by_cases hT : TrafOk t
  · have h1 := most_bd (n := t.length) hT.six (fun i j hi hj => hT.f i j hi hj)
    rw [bestL_yes hT]
    refine ⟨by rw [bFr_len]; omega, fun r hr => ?_⟩
    unfold bFr at hr
    obtain ⟨s, _, rfl⟩ := List.mem_map.1 hr
    have hl : (bSl t.length (fOf t) s).length = t.length := bSlot_len _ _ _
    rw [hl]; exact hT.six
  · rw [bestL_no hT]; exact FrSz.nil
/-- A table and a frame that are drawn so far: the table lies below Z, the frame above it. -/
structure FrAt (w wr : World) (rb Q Z F : Nat) (A : Option Addr) (n c : Nat) (t : List (List Int)) (A' : Option Addr) (p c' : Nat) : Prop where
  tab : OwnT wr w.heap.size Z A n c t
  fr : ∃ rows, OwnT wr Z F A' p c' rows ∧ FrSz rows
  rdr : Rdr wr rb Q
  gr : w.grownBy wr (some rb)
  hF : F ≤ wr.heap.size
  hZ : Z ≤ wr.heap.size
  hw : w.heap.size ≤ Z
section
variable {w wr w' : World} {rb Q Q' Z F n c p c' : Nat} {A A' : Option Addr} {t : List (List Int)}
theorem FrAt.more (h : FrAt w wr rb Q Z F A n c t A' p c') (hq : Q ≤ Q') : FrAt w wr rb Q' Z F A n c t A' p c' := ⟨h.tab, h.fr, h.rdr.more hq, h.gr, h.hF, h.hZ, h.hw⟩
theorem FrAt.picked (h : FrAt w wr rb Q Z F A n c t A' p c') (hlt : rb < w.heap.size) (R : Rdr w' rb Q') (G : wr.grownBy w' (some rb)) : FrAt w w' rb Q' Z F A n c t A' p c' := by
  obtain ⟨rows, h1, h2⟩ := h.fr
  have hz := h.hw
  have hs := G.size
  exact ⟨h.tab.grown G (fun g hg => .inl (by injection hg; omega)), ⟨rows, h1.grown G (fun g hg => .inl (by injection hg; omega)), h2⟩, R, gtrans h.gr G, Nat.le_trans h.hF hs, Nat.le_trans h.hZ hs, hz⟩
theorem FrAt.drew (h : FrAt w wr rb Q Z F A n c t A' p c') : FrAt w wr.drew rb Q Z F A n c t A' p c' := by
  obtain ⟨rows, h1, h2⟩ := h.fr
  exact ⟨h.tab.drew, ⟨rows, h1.drew, h2⟩, h.rdr.drew, ⟨h.gr.os, h.gr.tape, h.gr.output, h.gr.size, h.gr.block⟩, h.hF, h.hZ, h.hw⟩
theorem FrAt.len (h : FrAt w wr rb Q Z F A n c t A' p c') : p ≤ 216 ∧ p ≤ c' := by
  obtain ⟨rows, h1, h2⟩ := h.fr
  have := h1.len.out
  exact ⟨by rw [← this]; exact h2.1, h1.cap.1⟩
theorem FrAt.row (h : FrAt w wr rb Q Z F A n c t A' p c') {k : Nat} (hk : k < p) : ∃ g Ak nk ck, A' = some ⟨g, 0, none⟩ ∧ wr.cell? ⟨g, k, none⟩ = some (.slice Ak nk ck) ∧ nk ≤ 6 ∧ nk ≤ ck ∧ Z ≤ g := by
  obtain ⟨rows, h1, h2⟩ := h.fr
  obtain ⟨g, Ak, nk, ck, r, hA, q1, q2, q3, HR, hc, hf, ho, _⟩ := h1.at hk
  exact ⟨g, Ak, nk, ck, hA, hc, by rw [← ho.len.out]; exact h2.2 r (List.mem_of_getElem? HR.out), ho.cap.1, q1⟩
theorem FrAt.at2 {g k j nk ck : Nat} {Ak : Option Addr} (h : FrAt w wr rb Q Z F A n c t (some ⟨g, 0, none⟩) p c') (hlt : rb < w.heap.size) (hk : k < p) (hc : wr.cell? ⟨g, k, none⟩ = some (.slice Ak nk ck)) (hj : j < nk) :
    ∃ gk y, Ak = some ⟨gk, 0, none⟩ ∧ Z ≤ g ∧ g < wr.heap.size ∧ Z ≤ gk ∧ gk < wr.heap.size ∧ gk ≠ g ∧ nk ≤ ck ∧ wr.cell? ⟨gk, j, none⟩ = some (iv y) ∧ wr.frozen? ⟨gk, j, none⟩ = false ∧
      Hid (∀ v : Int, FrAt w (wr.setCell ⟨gk, j, none⟩ (.int .i64 v)) rb Q Z F A n c t (some ⟨g, 0, none⟩) p c' ∧ (wr.setCell ⟨gk, j, none⟩ (.int .i64 v)).cell? ⟨g, k, none⟩ = some (.slice Ak nk ck)) := by
  obtain ⟨rows, h1, h2⟩ := h.fr
  have hl : k < rows.length := by rw [h1.len.out]; exact hk
  obtain ⟨g0, Ak', nk', ck', r, hA, q1, q2, q3, HR, hc', hf, ho, _⟩ := h1.at hk
  injection hA with hA; injection hA with hA; subst hA
  rw [hc] at hc'
  injection hc' with hc'; injection hc' with e1 e2 e3; subst e1 e2 e3
  obtain ⟨g1, gk, nk', ck', x, hA, s1, s2, s3, hc', s4, s5, s6, s7, s8, s9, HX, s10, s11⟩ := h1.at2 hk HR.out (j := j) (by rw [ho.len.out]; exact hj)
  injection hA with hA; injection hA with hA; subst hA
  rw [hc] at hc'
  injection hc' with hc'; injection hc' with e1 e2 e3; subst e1 e2 e3
  have hw := h.hw
  refine ⟨gk, x, rfl, q1, q2, s4, s5, s7, s9, s10, s11, fun v => ⟨⟨h.tab.far _ _ (.inr s4), ⟨_, h1.put hk hc HR.out j v, h2.set HR.out⟩, h.rdr.set _ _ (by show rb < gk; omega), gset h.gr (.inr (by show w.heap.size ≤ gk; omega)) _, by simpa using h.hF, by simpa using h.hZ, hw⟩, ?_⟩⟩
  rw [World.cell?_setCell_other _ _ _ _ (fun e => by injection e with e; omega)]; exact hc
theorem FrAt.newFr {A2 : Option Addr} {p2 c2 : Nat} {rows : List (List Int)} (h : FrAt w wr rb Q Z F A n c t A' p c') (hb : Below wr.heap.size wr w') (hX : OwnT w' wr.heap.size w'.heap.size A2 p2 c2 rows) (hs : FrSz rows) : FrAt w w' rb Q Z w'.heap.size A n c t A2 p2 c2 :=
  ⟨h.tab.below hb (Nat.le_refl _), ⟨rows, hX.mono h.hZ, hs⟩, h.rdr.below hb, gtrans h.gr (gbelow hb _), Nat.le_refl _, Nat.le_trans h.hZ hb.size, h.hw⟩
/-- A drawn table with a drawn frame. -/
def FrDrawn (w : World) (rb : Nat) (e : Ending) (w' : World) : Prop := ∃ (A : Option Addr) (n c : Nat) (t : List (List Int)) (A' : Option Addr) (p c' : Nat) (fr : List (List Int)), e = .returned (.tuple #[.slice A n c, .slice A' p c']) ∧ RdT w' A n t ∧ n ≤ c ∧ SmT t ∧ RdT w' A' p fr ∧ p ≤ c' ∧ SmT fr ∧ w.grownBy w' (some rb)
theorem FrDrawn.mk (h : FrAt w wr rb Q Z F A n c t A' p c') (HS : Hid (SmT t)) : FrDrawn w rb (.returned (.tuple #[.slice A n c, .slice A' p c'])) wr := by
  obtain ⟨rows, h1, h2⟩ := h.fr
  exact ⟨A, n, c, t, A', p, c', rows, rfl, h.tab.rd, h.tab.cap.1, HS.out, h1.rd, h1.cap.1, h2.sm, h.gr⟩
theorem FrDrawn.app {c6 : Nat} {A6 : Option Addr} {hs : List Hd} {o o2 : Obj} {rows : List (List Int)} (S : FrAt w wr rb Q Z F A n c t A' p c') (HS : Hid (SmT t)) (hT : TabH wr Z F A' p c' rows hs) (hsz : FrSz rows)
    (hO : OwnL iv (wr.alloc o) wr.heap.size 3 (some ⟨wr.heap.size, 0, none⟩) 1 1 [(0 : Int)]) (O6 : OwnL hdv w' Z 30 A6 (p + 1) c6 (hs ++ [⟨some ⟨wr.heap.size, 0, none⟩, 1, 1⟩])) (G6 : ((wr.alloc o).alloc o2).grownBy w' (blk A')) (L6 : blk A6 = blk A' ∨ blk A6 = some ((wr.alloc o).alloc o2).heap.size) :
    FrDrawn w rb (.returned (.tuple #[.slice A n c, .slice A6 (p + 1) c6])) w' := by
  have z6 := G6.size
  have hz := S.hZ
  have hw := S.hw
  have hf := S.hF
  simp at z6
  have B5 := below_box wr o
  have hT6 := tab_push hT.tight B5 hO hz O6 G6 L6 (by omega)
  exact ⟨A, n, c, t, A6, p + 1, c6, rows ++ [[0]], rfl, (((S.tab.alloc o).alloc o2).grown G6 (fun g hg => .inr (hT.own.lt hg).1)).rd, S.tab.cap.1, HS.out, hT6.rd, hT6.cap.1, hsz.snoc, gcomp (galloc (galloc S.gr o) o2) G6 (fun g hg => by have := (hT.own.lt hg).1; omega)⟩
end
set_option maxRecDepth 100000 in
set_option maxHeartbeats 4000000 in
theorem l20Frame_any (w : World) (rb P : Nat) (hr : Rdr w rb P) (hP : P ≤ 600000) :
    Calls Try.prog 38 #[.pointer (some ⟨rb, 0, none⟩)] w (FrDrawn w rb) := by
  have hlt := hr.lt
  go_enter Try.func38, Try.ntmps38
  go_wp2_with fail
  refine (l20Traffic_any w rb P 12 hr (by omega) (by omega) (by omega)).mono ?_
  rintro x w1 ⟨A, n, c, t, rfl, hT1, HSM, R1, G1⟩
  have hcA := hT1.cap.1
  obtain ⟨Z, hZ⟩ : ∃ Z, w1.heap.size = Z := ⟨_, rfl⟩
  go_wp2_with fail
  refine (spec_FrameBest A n c t w1 hT1.rd hcA HSM.out).mono ?_
  rintro x w2 ⟨A', p, c', rfl, hX, b2⟩
  have S2 : FrAt w w2 rb (P + 200) Z w2.heap.size A n c t A' p c' := by
    subst hZ
    exact ⟨hT1.below b2 (Nat.le_refl _), ⟨_, hX, best_sz⟩, R1.below b2, gtrans G1 (gbelow b2 _), Nat.le_refl _, b2.size, G1.size⟩
  clear hT1 R1 G1 hX b2 hZ
  go_wp2_with fail
  refine (pick_n 2 S2.rdr (by omega) (by omega) (by omega)).mono ?_
  rintro x w3 ⟨r3, rfl, H3, R3, G3⟩
  have S3 := S2.picked hlt R3 G3
  obtain ⟨F3, hF3⟩ : ∃ F, w2.heap.size = F := ⟨_, rfl⟩
  rw [hF3] at S3
  clear S2 R3 G3 H3 hF3
  by_cases hr3 : r3 = 0
  · subst hr3
    go_wp2_with fail
    refine (spec_FrameGreedy A n c t w3 S3.tab.rd hcA HSM.out).mono ?_
    rintro x w4 ⟨A', p, c', rfl, hX, b4⟩
    have S := S3.newFr b4 hX greedy_sz
    obtain ⟨F, hF⟩ : ∃ F, w4.heap.size = F := ⟨_, rfl⟩
    rw [hF] at S
    clear S3 hX b4 hF
    obtain ⟨hp, hpc⟩ := S.len
    go_wp2
    go_loopg [6, 7] p (fun g i j wr => ∃ k : Nat, k ≤ p ∧ g = p - k ∧ i = .int .i64 k ∧ FrAt w wr rb (P + 201 + 18 * k) Z F A n c t A' p c')
    case atStart => exact ⟨0, Nat.zero_le _, rfl, rfl, S⟩
    case round =>
      clear S
      obtain ⟨k, hk, rfl, rfl, S⟩ := hrel
      by_cases hkl : k < p
      · obtain ⟨g, Ak, nk, ck, hA, hc, hn6, hnc, hzg⟩ := S.row hkl
        subst hA
        have hgr : g ≠ rb := by have := S.hw; omega
        go_wp2
        go_loopg [7] nk (fun g' j wr => ∃ q : Nat, q ≤ nk ∧ g' = nk - q ∧ j = .int .i64 q ∧ FrAt w wr rb (P + 201 + 18 * k + 3 * q) Z F A n c t (some ⟨g, 0, none⟩) p c' ∧ wr.cell? ⟨g, k, none⟩ = some (.slice Ak nk ck))
        case atStart => exact ⟨0, Nat.zero_le _, rfl, rfl, S, hc⟩
        case round =>
          clear S hc
          obtain ⟨q, hq, rfl, rfl, S, hc⟩ := hrel
          by_cases hql : q < nk
          · go_wp2_with fail
            refine (pick_n 12 S.rdr (by omega) (by omega) (by omega)).mono ?_
            rintro x w5 ⟨r5, rfl, H5, R5, G5⟩
            have hc5 := G5.cell hc (fun e => by injection e with e; exact hgr e)
            have S5 := S.picked hlt R5 G5
            clear S hc R5 G5 H5
            by_cases hr5 : r5 = 0
            · subst hr5
              obtain ⟨gk, y, hAk, d1, d2, d3, d4, d5, d6, d7, d8, HP⟩ := S5.at2 hlt hkl hc5 hql
              subst hAk
              go_wp2
              go_roundg (nk - (q + 1))
              case rel => exact ⟨q + 1, by omega, rfl, by go_num, (HP.out (-1)).1.more (by omega), (HP.out (-1)).2⟩
              case measure => omega
            · have hr5z : ((r5 : Int) == 0) = false := by simp; omega
              go_wp2_with fail
              refine (pick_n 60 S5.rdr (by omega) (by omega) (by omega)).mono ?_
              rintro x w6 ⟨r6, rfl, H6, R6, G6⟩
              have hc6 := G6.cell hc5 (fun e => by injection e with e; exact hgr e)
              have S6 := S5.picked hlt R6 G6
              clear S5 hc5 R6 G6 H6
              by_cases hr6 : r6 = 0
              · subst hr6
                have S6d := S6.drew
                have hc6d : w6.drew.cell? ⟨g, k, none⟩ = some (.slice Ak nk ck) := hc6
                obtain ⟨gk, y, hAk, d1, d2, d3, d4, d5, d6, d7, d8, HP⟩ := S6d.at2 hlt hkl hc6d hql
                subst hAk
                have hw1 : IntKind.i64.wrap ((nk : Int) + 1) = (nk : Int) + 1 := IntWalk.i64_in _ (by omega)
                have hk0 : (0 : Int) ≤ (k : Int) := Int.natCast_nonneg _
                have hk1 : (k : Int) < (p : Int) := by omega
                have hj0 : (0 : Int) ≤ (q : Int) := Int.natCast_nonneg _
                have hj1 : (q : Int) < (nk : Int) := by omega
                clear HP
                go_wp2_with fail
                go_region_held3 (fun w' => w'.cell? ⟨g, k, none⟩ = some (.slice (some ⟨gk, 0, none⟩) nk ck))
                  (first | go_keep | assumption | (rw [World.cell?_setCell_other _ _ _ _ (fun h => by injection h with h; omega)]; assumption))
                  (first | (go_at_call 58; (with_reducible refine (pick_n ((nk : Int) + 1) (by first | exact S6.rdr | exact S6d.rdr) (by omega) (by omega) (by omega)).mono ?_); rintro x w7 ⟨r7, rfl, H7, R7, G7⟩; have S7 := S6d.picked hlt R7 G7; have hc7 := G7.cell hc6d (fun e => by injection e with e; exact hgr e); obtain ⟨gk', y', hAk, s1, s2, s3, s4, s5, s6, s7, s8, HP'⟩ := S7.at2 hlt hkl hc7 hql; injection hAk with hAk; injection hAk with hAk; subst hAk; have h70 : (0 : Int) ≤ (r7 : Int) := Int.natCast_nonneg _; have h71 := H7.out; have hw2 : IntKind.i64.wrap ((r7 : Int) - 1) = (r7 : Int) - 1 := IntWalk.i64_in _ (by omega)))
                all_goals
                  go_wp2_with fail
                  go_roundg (nk - (q + 1))
                  case rel => exact ⟨q + 1, by omega, rfl, by go_num, (HP'.out _).1.more (by omega), (HP'.out _).2⟩
                  case measure => omega
              · have hr6z : ((r6 : Int) == 0) = false := by simp; omega
                go_wp2
                go_roundg (nk - (q + 1))
                case rel => exact ⟨q + 1, by omega, rfl, by go_num, S6.more (by omega), hc6⟩
                case measure => omega
          · go_wp2
            go_roundg (p - (k + 1))
            case rel => exact ⟨k + 1, by omega, rfl, by go_num, S.more (by omega)⟩
            case measure => omega
      · go_wp2_with fail
        refine (odd_le 12 S.rdr (by omega) (by omega) (by omega)).mono ?_
        rintro x w5 ⟨b5, rfl, R5, G5⟩
        have S5 := S.picked hlt R5 G5
        clear R5 G5 S
        cases b5 with
        | false =>
          go_wp2
          go_ret2
          exact FrDrawn.mk S5 HSM
        | true =>
          have hz5 := S5.hZ
          have hf5 := S5.hF
          obtain ⟨rows, ⟨hs, hT⟩, hsz⟩ := S5.fr
          have O5 := OwnL.lit (emb := iv) (e := 3) (B := w5.heap.size) w5 [(0 : Int)] (by simp [maxLen]) (Nat.le_refl _)
          have B5 := below_box w5 (.cells #[.int .i64 0] 3)
          have OH := (hT.own.below B5 (Nat.le_refl _)).alloc (.cells #[hdv ⟨some ⟨w5.heap.size, 0, none⟩, 1, 1⟩] 30)
          have RH := rd_hd (w5.alloc (.cells #[.int .i64 0] 3)) (some ⟨w5.heap.size, 0, none⟩) 1 1
          have RH2 : RdL hdv ((w5.alloc (.cells #[.int .i64 0] 3)).alloc (.cells #[.slice (some ⟨w5.heap.size, 0, none⟩) 1 1] 30)) (some ⟨w5.heap.size + 1, 0, none⟩) 1 [⟨some ⟨w5.heap.size, 0, none⟩, 1, 1⟩] := by simpa using RH
          clear RH
          go_wp2_with (first
            | (at_builtin; refine wpList_appLN (emb := hdv) _ rfl (.tmp 61) (.tmp 63) _ rfl Z 30 (.slice none 0 0) 24 Try.underlying23 info_row rfl A' p c' hs rfl OH _ 1 1 [⟨some ⟨w5.heap.size, 0, none⟩, 1, 1⟩] rfl RH2 hdv_one (p + 1) rfl _ rfl (by unfold maxLen; omega) (by omega) (by simp; omega) ?_; intro A6 c6 w6 O6 G6 L6)
            | fail)
          go_ret2
          exact FrDrawn.app S5 HSM hT hsz O5 O6 G6 L6
  · have hr3z : ((r3 : Int) == 0) = false := by simp; omega
    have S := S3
    clear S3
    obtain ⟨hp, hpc⟩ := S.len
    go_wp2
    go_loopg [6, 7] p (fun g i j wr => ∃ k : Nat, k ≤ p ∧ g = p - k ∧ i = .int .i64 k ∧ FrAt w wr rb (P + 201 + 18 * k) Z F3 A n c t A' p c')
    case atStart => exact ⟨0, Nat.zero_le _, rfl, rfl, S⟩
    case round =>
      clear S
      obtain ⟨k, hk, rfl, rfl, S⟩ := hrel
      by_cases hkl : k < p
      · obtain ⟨g, Ak, nk, ck, hA, hc, hn6, hnc, hzg⟩ := S.row hkl
        subst hA
        have hgr : g ≠ rb := by have := S.hw; omega
        go_wp2
        go_loopg [7] nk (fun g' j wr => ∃ q : Nat, q ≤ nk ∧ g' = nk - q ∧ j = .int .i64 q ∧ FrAt w wr rb (P + 201 + 18 * k + 3 * q) Z F3 A n c t (some ⟨g, 0, none⟩) p c' ∧ wr.cell? ⟨g, k, none⟩ = some (.slice Ak nk ck))
        case atStart => exact ⟨0, Nat.zero_le _, rfl, rfl, S, hc⟩
        case round =>
          clear S hc
          obtain ⟨q, hq, rfl, rfl, S, hc⟩ := hrel
          by_cases hql : q < nk
          · go_wp2_with fail
            refine (pick_n 12 S.rdr (by omega) (by omega) (by omega)).mono ?_
            rintro x w5 ⟨r5, rfl, H5, R5, G5⟩
            have hc5 := G5.cell hc (fun e => by injection e with e; exact hgr e)
            have S5 := S.picked hlt R5 G5
            clear S hc R5 G5 H5
            by_cases hr5 : r5 = 0
            · subst hr5
              obtain ⟨gk, y, hAk, d1, d2, d3, d4, d5, d6, d7, d8, HP⟩ := S5.at2 hlt hkl hc5 hql
              subst hAk
              go_wp2
              go_roundg (nk - (q + 1))
              case rel => exact ⟨q + 1, by omega, rfl, by go_num, (HP.out (-1)).1.more (by omega), (HP.out (-1)).2⟩
              case measure => omega
            · have hr5z : ((r5 : Int) == 0) = false := by simp; omega
              go_wp2_with fail
              refine (pick_n 60 S5.rdr (by omega) (by omega) (by omega)).mono ?_
              rintro x w6 ⟨r6, rfl, H6, R6, G6⟩
              have hc6 := G6.cell hc5 (fun e => by injection e with e; exact hgr e)
              have S6 := S5.picked hlt R6 G6
              clear S5 hc5 R6 G6 H6
              by_cases hr6 : r6 = 0
              · subst hr6
                have S6d := S6.drew
                have hc6d : w6.drew.cell? ⟨g, k, none⟩ = some (.slice Ak nk ck) := hc6
                obtain ⟨gk, y, hAk, d1, d2, d3, d4, d5, d6, d7, d8, HP⟩ := S6d.at2 hlt hkl hc6d hql
                subst hAk
                have hw1 : IntKind.i64.wrap ((nk : Int) + 1) = (nk : Int) + 1 := IntWalk.i64_in _ (by omega)
                have hk0 : (0 : Int) ≤ (k : Int) := Int.natCast_nonneg _
                have hk1 : (k : Int) < (p : Int) := by omega
                have hj0 : (0 : Int) ≤ (q : Int) := Int.natCast_nonneg _
                have hj1 : (q : Int) < (nk : Int) := by omega
                clear HP
                go_wp2_with fail
                go_region_held3 (fun w' => w'.cell? ⟨g, k, none⟩ = some (.slice (some ⟨gk, 0, none⟩) nk ck))
                  (first | go_keep | assumption | (rw [World.cell?_setCell_other _ _ _ _ (fun h => by injection h with h; omega)]; assumption))
                  (first | (go_at_call 58; (with_reducible refine (pick_n ((nk : Int) + 1) (by first | exact S6.rdr | exact S6d.rdr) (by omega) (by omega) (by omega)).mono ?_); rintro x w7 ⟨r7, rfl, H7, R7, G7⟩; have S7 := S6d.picked hlt R7 G7; have hc7 := G7.cell hc6d (fun e => by injection e with e; exact hgr e); obtain ⟨gk', y', hAk, s1, s2, s3, s4, s5, s6, s7, s8, HP'⟩ := S7.at2 hlt hkl hc7 hql; injection hAk with hAk; injection hAk with hAk; subst hAk; have h70 : (0 : Int) ≤ (r7 : Int) := Int.natCast_nonneg _; have h71 := H7.out; have hw2 : IntKind.i64.wrap ((r7 : Int) - 1) = (r7 : Int) - 1 := IntWalk.i64_in _ (by omega)))
                all_goals
                  go_wp2_with fail
                  go_roundg (nk - (q + 1))
                  case rel => exact ⟨q + 1, by omega, rfl, by go_num, (HP'.out _).1.more (by omega), (HP'.out _).2⟩
                  case measure => omega
              · have hr6z : ((r6 : Int) == 0) = false := by simp; omega
                go_wp2
                go_roundg (nk - (q + 1))
                case rel => exact ⟨q + 1, by omega, rfl, by go_num, S6.more (by omega), hc6⟩
                case measure => omega
          · go_wp2
            go_roundg (p - (k + 1))
            case rel => exact ⟨k + 1, by omega, rfl, by go_num, S.more (by omega)⟩
            case measure => omega
      · go_wp2_with fail
        refine (odd_le 12 S.rdr (by omega) (by omega) (by omega)).mono ?_
        rintro x w5 ⟨b5, rfl, R5, G5⟩
        have S5 := S.picked hlt R5 G5
        clear R5 G5 S
        cases b5 with
        | false =>
          go_wp2
          go_ret2
          exact FrDrawn.mk S5 HSM
        | true =>
          have hz5 := S5.hZ
          have hf5 := S5.hF
          obtain ⟨rows, ⟨hs, hT⟩, hsz⟩ := S5.fr
          have O5 := OwnL.lit (emb := iv) (e := 3) (B := w5.heap.size) w5 [(0 : Int)] (by simp [maxLen]) (Nat.le_refl _)
          have B5 := below_box w5 (.cells #[.int .i64 0] 3)
          have OH := (hT.own.below B5 (Nat.le_refl _)).alloc (.cells #[hdv ⟨some ⟨w5.heap.size, 0, none⟩, 1, 1⟩] 30)
          have RH := rd_hd (w5.alloc (.cells #[.int .i64 0] 3)) (some ⟨w5.heap.size, 0, none⟩) 1 1
          have RH2 : RdL hdv ((w5.alloc (.cells #[.int .i64 0] 3)).alloc (.cells #[.slice (some ⟨w5.heap.size, 0, none⟩) 1 1] 30)) (some ⟨w5.heap.size + 1, 0, none⟩) 1 [⟨some ⟨w5.heap.size, 0, none⟩, 1, 1⟩] := by simpa using RH
          clear RH
          go_wp2_with (first
            | (at_builtin; refine wpList_appLN (emb := hdv) _ rfl (.tmp 61) (.tmp 63) _ rfl Z 30 (.slice none 0 0) 24 Try.underlying23 info_row rfl A' p c' hs rfl OH _ 1 1 [⟨some ⟨w5.heap.size, 0, none⟩, 1, 1⟩] rfl RH2 hdv_one (p + 1) rfl _ rfl (by unfold maxLen; omega) (by omega) (by simp; omega) ?_; intro A6 c6 w6 O6 G6 L6)
            | fail)
          go_ret2
          exact FrDrawn.app S5 HSM hT hsz O5 O6 G6 L6
/-- A small table and a small frame that read. -/
def FrGot (w : World) (e : Ending) (w' : World) : Prop := ∃ (A : Option Addr) (n c : Nat) (t : List (List Int)) (A' : Option Addr) (p c' : Nat) (fr : List (List Int)), e = .returned (.tuple #[.slice A n c, .slice A' p c']) ∧ RdT w' A n t ∧ n ≤ c ∧ SmT t ∧ RdT w' A' p fr ∧ p ≤ c' ∧ SmT fr ∧ Below w.heap.size w w'
theorem DrawFrameOk_any (A : Option Addr) (n c : Nat) (zs : List Int) (w : World) (hx : RdL uv w A n zs) (hz : ∀ z ∈ zs, 0 ≤ z ∧ z ≤ 255) (hc : n ≤ c) (hn : n ≤ 1048576) :
    Calls Try.prog 10 #[.slice A n c] w (FrGot w) := by
  have HZ := Lib.hid hz; clear hz
  go_enter Try.func10, Try.ntmps10
  go_wp2_with fail
  refine (l20Open_any A n c zs _ hx HZ.out hc hn).mono ?_
  rintro x w1 ⟨rb, rfl, hrb, R1, b1⟩
  go_wp2_with fail
  refine (l20Frame_any w1 rb 0 R1 (by omega)).mono ?_
  rintro x w2 ⟨A2, n2, c2, t, A3, p, c3, fr, rfl, hT, hc2, hs, hF, hp, hs', G2⟩
  go_wp2
  go_ret2
  exact ⟨A2, n2, c2, t, A3, p, c3, fr, rfl, hT, hc2, hs, hF, hp, hs', drawn_below b1 b1.size hrb G2⟩
theorem DrawFrameLeft_any (A : Option Addr) (n c : Nat) (zs : List Int) (w : World) (hx : RdL uv w A n zs) (hz : ∀ z ∈ zs, 0 ≤ z ∧ z ≤ 255) (hc : n ≤ c) (hn : n ≤ 1048576) :
    Calls Try.prog 36 #[.slice A n c] w (FrGot w) := by
  have HZ := Lib.hid hz; clear hz
  go_enter Try.func36, Try.ntmps36
  go_wp2_with fail
  refine (l20Open_any A n c zs _ hx HZ.out hc hn).mono ?_
  rintro x w1 ⟨rb, rfl, hrb, R1, b1⟩
  go_wp2_with fail
  refine (l20Frame_any w1 rb 0 R1 (by omega)).mono ?_
  rintro x w2 ⟨A2, n2, c2, t, A3, p, c3, fr, rfl, hT, hc2, hs, hF, hp, hs', G2⟩
  go_wp2
  go_ret2
  exact ⟨A2, n2, c2, t, A3, p, c3, fr, rfl, hT, hc2, hs, hF, hp, hs', drawn_below b1 b1.size hrb G2⟩
theorem DrawFrameSends_any (A : Option Addr) (n c : Nat) (zs : List Int) (w : World) (hx : RdL uv w A n zs) (hz : ∀ z ∈ zs, 0 ≤ z ∧ z ≤ 255) (hc : n ≤ c) (hn : n ≤ 1048576) :
    Calls Try.prog 34 #[.slice A n c] w (TrafGot w) := by
  have HZ := Lib.hid hz; clear hz
  go_enter Try.func34, Try.ntmps34
  go_wp2_with fail
  refine (l20Open_any A n c zs _ hx HZ.out hc hn).mono ?_
  rintro x w1 ⟨rb, rfl, hrb, R1, b1⟩
  go_wp2_with fail
  refine (l20Frame_any w1 rb 0 R1 (by omega)).mono ?_
  rintro x w2 ⟨A2, n2, c2, t, A3, p, c3, fr, rfl, hT, hc2, hs, hF, hp, hs', G2⟩
  go_wp2
  go_ret
  exact ⟨A3, p, c3, fr, rfl, hF, hp, hs', drawn_below b1 b1.size hrb G2⟩
end Go.Proofs.Ythfjlellaojdmaa
