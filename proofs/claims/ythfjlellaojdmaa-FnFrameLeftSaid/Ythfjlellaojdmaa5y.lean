/- PermValid and Load of the reference, and l20Even: a drawn table is square, with at most 6 rows. Condition: lists of at most 6 numbers; fewer than 800000 picks so far. -/
import Derived.Test.Ythfjlellaojdmaa5x3
import Derived.Test.YthfjlellaojdmaaDperm
namespace Go.Proofs.Ythfjlellaojdmaa
open Go.RowKit
set_option linter.unusedSimpArgs false
set_option linter.unusedVariables false
theorem spec_PermValid (A : Option Addr) (n c : Nat) (xs : List Int) (w : World) (hx : RdL iv w A n xs) (hc : n ≤ c) (hn : n ≤ 1048576) :
    Calls Try.prog 69 #[.slice A n c] w (RetB (xs.length ≤ 6 ∧ PermOk xs) w) := by
  have HL := hx.len
  by_cases hp : PermOk xs
  · have HP := Lib.hid hp; clear hp
    by_cases h6 : n ≤ 6
    · have h6z : decide ((n : Int) ≤ 6) = true := by simp; omega
      go_enter Try.func69, Try.ntmps69
      go_wp2_with fail
      refine (retB_is (b := true) ⟨fun _ => HP.out, fun _ => rfl⟩ (spec_l1Perm A n c xs w hx hc hn)).mono ?_
      rintro e w1 ⟨rfl, m1, rfl⟩
      go_wp2
      go_ret
      exact RetB.yes ⟨by rw [HL.out]; exact h6, HP.out⟩ _
    · have h6z : decide ((n : Int) ≤ 6) = false := by simp; omega
      go_enter Try.func69, Try.ntmps69
      go_wp2_with fail
      refine (retB_is (b := true) ⟨fun _ => HP.out, fun _ => rfl⟩ (spec_l1Perm A n c xs w hx hc hn)).mono ?_
      rintro e w1 ⟨rfl, m1, rfl⟩
      go_wp2
      go_ret
      exact RetB.no (fun h => h6 (by rw [← HL.out]; exact h.1)) _
  · have HP := Lib.hid hp; clear hp
    go_enter Try.func69, Try.ntmps69
    go_wp2_with fail
    refine (retB_is (b := false) ⟨fun h => by simp at h, fun h => absurd h HP.out⟩ (spec_l1Perm A n c xs w hx hc hn)).mono ?_
    rintro e w1 ⟨rfl, m1, rfl⟩
    go_wp2
    go_ret
    exact RetB.no (fun h => HP.out h.2) _
/-- A square table of the call's own. -/
def RetQ (w : World) (e : Ending) (w' : World) : Prop := ∃ (A : Option Addr) (n c : Nat) (L : Nat → Nat → Int), e = .returned (.slice A n c) ∧ n ≤ 6 ∧ OwnT w' w.heap.size w'.heap.size A n c (tabF n L) ∧ Below w.heap.size w w'
theorem perm_nat {p : List Int} {n k : Nat} (h : PermOk p) (hl : p.length = n) (hk : k < n) : ∃ v : Nat, v < n ∧ p[k]? = some (v : Int) := by
  have hx : p[k]? = some p[k] := List.getElem?_eq_getElem (by omega)
  have h1 := h k _ hx
  exact ⟨p[k].toNat, by omega, by rw [hx]; congr 1; omega⟩
theorem upd_bd {n : Nat} {L : Nat → Nat → Int} {hi : Int} {j v : Nat} (h : Bd n L 0 hi) (hj : j < n) (hv : v < n) : Bd n (upd L j v (L j v + 1)) 0 (hi + 1) := fun a b ha hb => by
  have h1 := h a b ha hb
  have h2 := h j v hj hv
  unfold upd
  split <;> omega
theorem RetQ.nil (w : World) {w' : World} (hb : Below w.heap.size w w') : RetQ w (.returned (.slice (some ⟨w'.heap.size, 0, none⟩) 0 0)) (w'.alloc (.cells #[] 30)) :=
  ⟨_, 0, 0, fun _ _ => 0, rfl, by omega, (OwnT.lit0 w' hb.size).tight, bbox hb hb.size _⟩
set_option maxRecDepth 100000 in
set_option maxHeartbeats 4000000 in
theorem spec_Load (N : Nat) (A : Option Addr) (p c : Nat) (rows : List (List Int)) (w : World) (hN : N ≤ 6) (hx : RdT w A p rows) (hp : p ≤ 6) (hr : ∀ r ∈ rows, r.length = N) :
    Calls Try.prog 67 #[.int .i64 N, .slice A p c] w (RetQ w) := by
  have HL := hx.len
  have HR := Lib.hid hr; clear hr
  have hT0 := OwnT.lit0 (B := w.heap.size) w (Nat.le_refl _)
  have hb0 := below_box w (.cells #[] 30)
  have H1 : Hid (inB (N : Int) 0 6 = true) := by show _ = _; simp [inB]; omega
  have hmk := run_make_row' (P := Try.prog) 30 3 (.int .i64 0) 8 Try.underlying30 info_int rfl .i64 .i64 N (by omega) (by omega)
  go_enter Try.func67, Try.ntmps67
  go_wp2
  go_loopg [5, 6] N (fun g s5 i wr => ∃ (k : Nat) (A2 : Option Addr) (c2 : Nat), k ≤ N ∧ g = N - k ∧ i = .int .i64 k ∧ s5 = .slice A2 k c2 ∧ OwnT wr w.heap.size wr.heap.size A2 k c2 (List.replicate k (rowF N (fun _ => 0))) ∧ Below w.heap.size w wr)
  case atStart => exact ⟨0, _, _, Nat.zero_le _, rfl, rfl, rfl, hT0.tight, hb0⟩
  case round =>
    obtain ⟨k, A2, c2, hk, rfl, rfl, rfl, hown, hbel⟩ := hrel
    have hz := hbel.size
    by_cases hlt : k < N
    · obtain ⟨hs, hown⟩ := hown
      go_wp2_with fail
      refine (l1_is H1.out).mono ?_
      rintro e w1 ⟨rfl, m1, rfl⟩
      have hown1 := hown.drewN m1
      have hbel1 := below_drewN hbel m1
      obtain ⟨W, hW⟩ : ∃ W : World, wr.drewN m1 = W := ⟨_, rfl⟩
      have hWs : W.heap.size = wr.heap.size := by rw [← hW]; rfl
      rw [← hWs] at hown1
      have hzW := hbel1.size
      rw [hW] at hown1 hbel1 hzW ⊢
      clear hW hown hbel
      have hO1 := OwnL.made (emb := iv) (e := 3) W (0 : Int) N (by unfold maxLen; omega) W.heap.size (Nat.le_refl _)
      have Bel5 := below_box W (.cells (madeCells #[iv 0] N) 3)
      have OH := (hown1.own.below Bel5 (Nat.le_refl _)).alloc (.cells #[hdv ⟨some ⟨W.heap.size, 0, none⟩, N, N⟩] 30)
      have RH := rd_hd (W.alloc (.cells (madeCells #[iv 0] N) 3)) (some ⟨W.heap.size, 0, none⟩) N N
      have RH2 : RdL hdv ((W.alloc (.cells (madeCells #[iv 0] N) 3)).alloc (.cells #[.slice (some ⟨W.heap.size, 0, none⟩) N N] 30)) (some ⟨W.heap.size + 1, 0, none⟩) 1 [⟨some ⟨W.heap.size, 0, none⟩, N, N⟩] := by simpa using RH
      clear RH hWs
      have z5 := Bel5.size
      go_wp2_with (first
        | (at_builtin; refine wpList_appLN (emb := hdv) _ rfl (.tmp 19) (.tmp 22) _ rfl w.heap.size 30 (.slice none 0 0) 24 Try.underlying23 info_row rfl A2 k c2 hs rfl OH _ 1 1 [⟨some ⟨W.heap.size, 0, none⟩, N, N⟩] rfl RH2 hdv_one (k + 1) rfl _ rfl (by unfold maxLen; omega) (by omega) (by simp; omega) ?_; intro A6 c6 w6 O6 G6 L6)
        | fail)
      have z6 := G6.size
      simp at z6
      rw [rowF_zero] at hO1
      have hT6 := tab_push hown1 Bel5 hO1 hzW O6 G6 L6 (by omega)
      have hb6 : Below w.heap.size w w6 := bgrown (bbox (bstep hbel1 Bel5) (by omega) _) G6 (by simp; omega) (fun g hg => (hown1.own.lt hg).1)
      rw [← List.replicate_succ'] at hT6
      go_roundg (N - (k + 1))
      case rel => exact ⟨k + 1, A6, c6, by omega, rfl, by go_num, rfl, hT6, hb6⟩
      case measure => omega
    · obtain rfl : k = N := by omega
      rw [tabF_zero] at hown
      obtain ⟨Z, hZ⟩ : ∃ Z, wr.heap.size = Z := ⟨_, rfl⟩
      rw [hZ] at hown
      clear hZ hmk hT0 hb0
      go_wp2
      go_loopg [7] p (fun g i wr => ∃ (s : Nat) (L : Nat → Nat → Int), s ≤ p ∧ g = p - s ∧ i = .int .i64 s ∧ OwnT wr w.heap.size Z A2 k c2 (tabF k L) ∧ Hid (Bd k L 0 (6 * s)) ∧ Below w.heap.size w wr)
      case atStart => exact ⟨0, _, Nat.zero_le _, rfl, rfl, hown, fun a b _ _ => by show (0 : Int) ≤ 0 ∧ (0 : Int) ≤ _; omega, hbel⟩
      case round =>
        clear hown hbel
        obtain ⟨s, L, hs, rfl, rfl, hown, HB, hbel⟩ := hrel
        by_cases hlt : s < p
        · obtain ⟨b, off, Ak, nk, ck, r, rfl, HX, hc0, hrd, hnk⟩ := hx.at hlt
          have hrl := hrd.len
          obtain rfl : nk = k := by rw [← hrl.out]; exact HR.out r (List.mem_of_getElem? HX.out)
          have hcr := (hbel.cell (p := ⟨b, off + s, none⟩) (World.block_lt_of_cell? _ _ hc0)).trans hc0
          by_cases hpv : r.length ≤ 6 ∧ PermOk r
          · have HPV := Lib.hid hpv; clear hpv
            go_wp2_with fail
            refine (retB_is (b := true) ⟨fun _ => HPV.out, fun _ => rfl⟩ (spec_PermValid Ak nk ck r _ (hrd.below hbel (Nat.le_refl _)) hnk (by omega))).mono ?_
            rintro e w3 ⟨rfl, m3, rfl⟩
            have hownD := hown.drewN m3
            have hbelD := below_drewN hbel m3
            have hnez : ((nk : Int) != (nk : Int)) = false := by simp
            go_wp2
            clear hcr hown hbel
            go_loopg [8] nk (fun g i wr => ∃ (j : Nat) (L : Nat → Nat → Int), j ≤ nk ∧ g = nk - j ∧ i = .int .i64 j ∧ OwnT wr w.heap.size Z A2 nk c2 (tabF nk L) ∧ Hid (Bd nk L 0 (6 * s + j)) ∧ Below w.heap.size w wr)
            case atStart => exact ⟨0, L, Nat.zero_le _, rfl, rfl, hownD, by show Bd _ _ _ _; have := HB.out; simpa using this, hbelD⟩
            case round =>
              clear hownD hbelD
              obtain ⟨j, L', hj, rfl, rfl, hown, HB', hbel⟩ := hrel
              by_cases hjl : j < nk
              · obtain ⟨v, hvn, hv0⟩ := perm_nat HPV.out.2 hrl.out hjl
                obtain ⟨W, hW⟩ : ∃ W : World, wr.drew = W := ⟨_, rfl⟩
                have hbW := hbel.drew
                have hownW := hown.drew
                rw [hW] at hbW hownW
                obtain ⟨b2, off2, x, rfl, HX2, hcx⟩ := (hrd.below hbW (Nat.le_refl _)).at hjl
                have hxv : x = (v : Int) := by have h1 := HX2.out; rw [hv0] at h1; injection h1 with h1; exact h1.symm
                subst hxv
                have hcrW := (hbW.cell (p := ⟨b, off + s, none⟩) (World.block_lt_of_cell? _ _ hc0)).trans hc0
                obtain ⟨g, gk, ck2, y, rfl, q1, q2, q3, q4, q5, q6, q7, q8, q9, HY, q10, q11, HPP⟩ := hownW.atF hjl hvn
                have hyb : 0 ≤ y ∧ y ≤ 100 := by have h1 := HB'.out j v hjl hvn; rw [HY.out] at h1; omega
                obtain ⟨hy0, hy1⟩ := hyb
                have hT9 := HPP.out (y + 1)
                have HB9 : Hid (Bd nk (upd L' j v (y + 1)) 0 (6 * s + (j + 1 : Nat))) := by
                  have h1 := upd_bd HB'.out hjl hvn
                  rw [HY.out] at h1
                  intro a b ha hb
                  have h2 := h1 a b ha hb
                  omega
                clear hown hbel hv0
                go_wp2_with fail
                refine wp_region_still_tail 26 (by kernel_rfl) (by kernel_rfl) ?_
                simp only [List.take_succ_cons, List.take_zero, List.drop_succ_cons, List.drop_zero]
                change wpStill _ _ (World.drew wr) (fun a' => wpList _ _ _ _ a' (World.drew wr)) _ _
                rw [hW]
                clear hW
                repeat still_step
                refine wpStill_nil ?_
                go_wp2
                go_roundg (nk - (j + 1))
                case rel => exact ⟨j + 1, _, by omega, rfl, by go_num, hT9, HB9.out, hbW.setCell (by simpa using q6) _⟩
                case measure => omega
              · go_wp2
                go_roundg (p - (s + 1))
                case rel => exact ⟨s + 1, L', by omega, rfl, by go_num, hown, fun a b ha hb => by have := HB'.out a b ha hb; omega, hbel⟩
                case measure => omega
          · have HPV := Lib.hid hpv; clear hpv
            go_wp2_with fail
            refine (retB_is (b := false) ⟨fun h => by simp at h, fun h => absurd h HPV.out⟩ (spec_PermValid Ak nk ck r _ (hrd.below hbel (Nat.le_refl _)) hnk (by omega))).mono ?_
            rintro e w3 ⟨rfl, m3, rfl⟩
            have hbelD := below_drewN hbel m3
            have hN0 := RetQ.nil w hbelD
            go_wp2
            go_ret
            exact hN0
        · go_wp2_with fail
          refine (spec_TrafficValid A2 k c2 (tabF k L) _ hown.rd (tabF_sm hN)).mono ?_
          rintro e w3 ⟨v, rfl, hv, m3, rfl⟩
          have hbelD := below_drewN hbel m3
          cases v with
          | false =>
            have hN0 := RetQ.nil w hbelD
            go_wp2
            go_ret
            exact hN0
          | true =>
            go_wp2
            go_ret
            exact ⟨A2, k, c2, L, rfl, hN, (hown.drewN m3).tight, hbelD⟩
end Go.Proofs.Ythfjlellaojdmaa
