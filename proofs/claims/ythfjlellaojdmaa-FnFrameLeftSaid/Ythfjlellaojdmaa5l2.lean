/- FrameLeft of the reference. Condition: tables of at most 1048576 numbers. -/
import Derived.Test.Ythfjlellaojdmaa5l
namespace Go.Proofs.Ythfjlellaojdmaa
open Go.RowKit
set_option linter.unusedSimpArgs false
set_option linter.unusedVariables false
theorem OwnT.drewSet {w : World} {B F : Nat} {A : Option Addr} {n c : Nat} {rows : List (List Int)} {p : Addr} {v : Value} (h : OwnT (w.setCell p v) B F A n c rows) : OwnT (w.drew.setCell p v) B F A n c rows := h.keep fun _ _ _ _ => rfl
theorem below_drewSet {B : Nat} {w0 w : World} {p : Addr} {v : Value} (h : Below B w0 (w.setCell p v)) : Below B w0 (w.drew.setCell p v) := ⟨h.os, h.tape, h.output, h.size, h.block⟩
theorem bad_pos {t : List (List Int)} {n : Nat} (hl : t.length = n) (h : ¬ TrafOk t) : 0 < n := by
  rcases Nat.eq_zero_or_pos n with h0 | h0
  · exfalso; apply h
    have : t = [] := List.eq_nil_of_length_eq_zero (by omega)
    subst this
    exact ⟨by simp, by simp⟩
  · exact h0
theorem rd_hd (w : World) (A : Option Addr) (n c : Nat) : RdL hdv (w.alloc (.cells #[.slice A n c] 30)) (some ⟨w.heap.size, 0, none⟩) 1 [(⟨A, n, c⟩ : Hd)] := RdL.one (emb := hdv) w 30 ⟨A, n, c⟩
/-- A row that was made anew is appended to the table (the table's word is opened ahead). -/
theorem tab_push {w0 w w' : World} {B F n c : Nat} {A Ar A1 : Option Addr} {nr cr c1 : Nat} {rows : List (List Int)} {hs : List Hd} {r : List Int} {o : Obj} (h : TabH w0 B F A n c rows hs) (hbel : Below w0.heap.size w0 w) (hr : OwnL iv w w0.heap.size 3 Ar nr cr r) (hB : B ≤ w0.heap.size)
    (ho : OwnL hdv w' B 30 A1 (n + 1) c1 (hs ++ [⟨Ar, nr, cr⟩])) (hg : (w.alloc o).grownBy w' (blk A)) (hb1 : blk A1 = blk A ∨ blk A1 = some (w.alloc o).heap.size) (hF : F ≤ w'.heap.size) :
    OwnT w' B w'.heap.size A1 (n + 1) c1 (rows ++ [r]) := TabH.push h hbel hr hB ho hg hb1 rfl hF (Nat.le_refl _)
set_option maxHeartbeats 2000000 in
theorem spec_FrameLeft (A : Option Addr) (n c : Nat) (t : List (List Int)) (A' : Option Addr) (p c' : Nat) (fr : List (List Int)) (w : World) (hx : RdT w A n t) (hy : RdT w A' p fr) (hc : n ≤ c) (hc' : p ≤ c') (hs : SmT t) (hs' : SmT fr) :
    Calls Try.prog 37 #[.slice A n c, .slice A' p c'] w (RetT (leftL t fr) w) := by
  have HL := hx.len
  have HL' := hy.len
  have hp : p ≤ 1048576 := by rw [← HL'.out]; exact hs'.1
  have HS := Lib.hid hs; clear hs
  have HS' := Lib.hid hs'; clear hs'
  have hT0 := OwnT.lit0 (B := w.heap.size) w (Nat.le_refl _)
  have hb0 := below_box w (.cells #[] 30)
  by_cases hT : TrafOk t
  · have HV : Hid (leftL t fr = tabF n (leftF (fOf t) fr)) := by show _ = _; rw [leftL_yes hT, HL.out]
    have h6 : n ≤ 6 := by rw [← HL.out]; exact hT.six
    have HB : Hid (∀ i j, 0 ≤ fOf t i j ∧ fOf t i j ≤ 6) := fun i j => hT.bd i j
    have HF : Hid (t = tabF n (fOf t)) := by have := hT.tab; rwa [HL.out] at this
    have HT := Lib.hid hT; clear hT
    obtain ⟨F, hF⟩ : ∃ F, fOf t = F := ⟨_, rfl⟩
    rw [hF] at HB HV HF
    clear hF
    rw [HV.out]
    go_enter Try.func37, Try.ntmps37
    go_wp2
    go_loopg [5, 6] n (fun g s5 i wr => ∃ (k : Nat) (A2 : Option Addr) (c2 : Nat), k ≤ n ∧ g = n - k ∧ i = .int .i64 k ∧ s5 = .slice A2 k c2 ∧ OwnT wr w.heap.size wr.heap.size A2 k c2 (t.take k) ∧ Below w.heap.size w wr)
    case atStart => exact ⟨0, _, _, Nat.zero_le _, rfl, rfl, rfl, by simpa using hT0.tight, hb0⟩
    case round =>
      obtain ⟨k, A2, c2, hk, rfl, rfl, rfl, hown, hbel⟩ := hrel
      by_cases hlt : k < n
      · obtain ⟨b, off, Ak, nk, ck, r, rfl, HX, hc0, hrd, hnk⟩ := hx.at hlt
        have hrl := hrd.len
        have hnk' : nk ≤ 1048576 := by have := HS.out.row HX.out; have h2 := hrl.out; omega
        have hz := hbel.size
        obtain ⟨hs, hown⟩ := hown
        go_wp2_with fail
        refine (retB_is (b := true) ⟨fun _ => HT.out, fun _ => rfl⟩ (spec_TrafficValid _ n c t _ (hx.below hbel (Nat.le_refl _)) HS.out)).mono ?_
        rintro e w1 ⟨rfl, m1, rfl⟩
        have hbA : Below w.heap.size w ((wr.drewN m1).alloc (.cells #[] 3)) := bbox (below_drewN hbel m1) (by simpa using hz) _
        have hcA := (hbA.cell (p := ⟨b, off + k, none⟩) (World.block_lt_of_cell? _ _ hc0)).trans hc0
        have hrA := hrd.below hbA (Nat.le_refl _)
        have OE : OwnL iv ((wr.drewN m1).alloc (.cells #[] 3)) wr.heap.size 3 (some ⟨wr.heap.size, 0, none⟩) 0 0 [] := OwnL.lit (wr.drewN m1) [] (by simp) (by simp)
        clear hc0
        go_wp2_with (first
          | (at_builtin; refine wpList_appLN (emb := iv) _ rfl (.tmp 21) (.tmp 25) _ rfl wr.heap.size 3 (.int .i64 0) 8 Try.underlying30 info_int rfl _ 0 0 [] rfl OE _ nk ck r rfl hrA (fun _ => rfl) nk (by omega) r (by simp) (by unfold maxLen; omega) (by omega) (by simp) ?_; intro A5 c5 w5 O5 G5 L5; have Bel5 := bgrown (bbox (below_drewN (Below.refl wr.heap.size wr) m1) (by simp) (.cells #[] 3)) G5 (by simp) (fun g hg => by rw [blk_some] at hg; injection hg; omega); have z5 := Bel5.size; have OH := (hown.own.below Bel5 (Nat.le_refl _)).alloc (.cells #[hdv ⟨A5, nk, c5⟩] 30))
          | (at_builtin; refine wpList_appLN (emb := hdv) _ rfl (.tmp 20) (.tmp 27) _ rfl w.heap.size 30 (.slice none 0 0) 24 Try.underlying23 info_row rfl A2 k c2 hs rfl OH _ 1 1 [⟨A5, nk, c5⟩] rfl (rd_hd w5 A5 nk c5) hdv_one (k + 1) rfl _ rfl (by unfold maxLen; omega) (by omega) (by simp; omega) ?_; intro A6 c6 w6 O6 G6 L6)
          | fail)
        have z6 := G6.size
        simp at z6
        have hT6 := tab_push hown Bel5 O5 hz O6 G6 L6 (by omega)
        rw [← take_snoc HX.out] at hT6
        have hb6 : Below w.heap.size w w6 := bgrown (bbox (bstep hbel Bel5) (by omega) _) G6 (by simp; omega) (fun g hg => (hown.own.lt hg).1)
        go_roundg (n - (k + 1))
        case rel => exact ⟨k + 1, A6, c6, by omega, rfl, by go_num, rfl, hT6, hb6⟩
        case measure => omega
      · obtain rfl : k = n := by omega
        obtain ⟨Z, hZ⟩ : ∃ Z, wr.heap.size = Z := ⟨_, rfl⟩
        rw [hZ] at hown
        clear hZ
        go_wp2
        go_loopg [7] p (fun g i wr => ∃ s : Nat, s ≤ p ∧ g = p - s ∧ i = .int .i64 s ∧ OwnT wr w.heap.size Z A2 k c2 (tabF k (leftF F (fr.take s))) ∧ Below w.heap.size w wr)
        case atStart => exact ⟨0, Nat.zero_le _, rfl, rfl, by rw [List.take_of_length_le (by rw [HL.out]; exact Nat.le_refl _), HF.out] at hown; exact hown.cong (fun i j _ _ => by simp [leftF, cnt]), hbel⟩
        case round =>
          clear hown hbel
          obtain ⟨s, hs, rfl, rfl, hown, hbel⟩ := hrel
          by_cases hlt : s < p
          · obtain ⟨b, off, Ak, nk, ck, r, rfl, HX, hc0, hrd, hnk⟩ := hy.at hlt
            have hrl := hrd.len
            have hnk' : nk ≤ 1048576 := by have := HS'.out.row HX.out; have h2 := hrl.out; omega
            go_wp2
            go_loopg [8] nk (fun g i wr => ∃ k' : Nat, k' ≤ nk ∧ g = nk - k' ∧ i = .int .i64 k' ∧ OwnT wr w.heap.size Z A2 k c2 (tabF k (leftK F (fr.take s) r k')) ∧ Below w.heap.size w wr)
            case atStart => exact ⟨0, Nat.zero_le _, rfl, rfl, hown.cong (fun i j _ _ => (leftK_zero _ _ _ _ _).symm), hbel⟩
            case round =>
              clear hown hbel
              obtain ⟨q, hq, rfl, rfl, hown, hbel⟩ := hrel
              have hcr := (hbel.cell (p := ⟨b, off + s, none⟩) (World.block_lt_of_cell? _ _ hc0)).trans hc0
              by_cases hgo : q < nk ∧ q < k
              · obtain ⟨hql, hqn⟩ := hgo
                obtain ⟨b2, off2, x, rfl, HX2, hcx⟩ := (hrd.below hbel (Nat.le_refl _)).at hql
                by_cases hxj : ∃ j : Nat, x = (j : Int) ∧ j < k
                · obtain ⟨j, rfl, hjn⟩ := hxj
                  have hin : inB (j : Int) 0 ((k : Int) - 1) = true := by simp [inB]; omega
                  have HIN := Lib.hid hin; clear hin
                  go_wp2_with fail
                  refine (l1_is HIN.out).mono ?_
                  rintro e w3 ⟨rfl, m3, rfl⟩
                  have hbW : Below w.heap.size w (wr.drewN m3).drew := (below_drewN hbel m3).drew
                  obtain ⟨W, hW⟩ : ∃ W : World, (wr.drewN m3).drew = W := ⟨_, rfl⟩
                  have hownW := (hown.drewN m3).drew
                  have hcrW : (wr.drewN m3).drew.cell? ⟨b, off + s, none⟩ = some (.slice (some ⟨b2, off2, none⟩) nk ck) := hcr
                  have hcxW : (wr.drewN m3).drew.cell? ⟨b2, off2 + q, none⟩ = some (iv (j : Int)) := hcx
                  rw [hW] at hownW hcrW hcxW hbW
                  obtain ⟨g, gk, ck2, y, rfl, q1, q2, q3, q4, q5, q6, q7, q8, q9, HY, q10, q11, HP⟩ := hownW.atF hqn hjn
                  have hyb : -(s : Int) - 1 ≤ y ∧ y ≤ 6 := by
                    have h1 := leftK_bd (f := F) (fr := fr.take s) (r := r) (k := q) (HB.out q j)
                    rw [HY.out, List.length_take] at h1
                    omega
                  obtain ⟨hy1, hy2⟩ := hyb
                  clear hcr hcx hown hbel
                  go_wp2_with fail
                  refine wp_region_still_tail 26 (by kernel_rfl) (by kernel_rfl) ?_
                  simp only [List.take_succ_cons, List.take_zero, List.drop_succ_cons, List.drop_zero]
                  change wpStill _ _ (World.drew (wr.drewN m3)) (fun a' => wpList _ _ _ _ a' (World.drew (wr.drewN m3))) _ _
                  rw [hW]
                  clear hW
                  repeat still_step
                  refine wpStill_nil ?_
                  go_wp2
                  go_roundg (nk - (q + 1))
                  case rel => exact ⟨q + 1, by omega, rfl, by go_num, (HP.out (y - 1)).cong (fun a b _ _ => by rw [leftK_sent HX2.out, HY.out]), hbW.setCell (by simpa using q6) _⟩
                  case measure => omega
                · have hin : inB x 0 ((k : Int) - 1) = false := by
                    cases h : inB x 0 ((k : Int) - 1) with
                    | false => rfl
                    | true =>
                      exfalso; apply hxj
                      simp [inB] at h
                      exact ⟨x.toNat, by omega, by omega⟩
                  have HIN := Lib.hid hin; clear hin
                  have HXJ : Hid (x < 0 ∨ (k : Int) ≤ x) := by
                    show _ ∨ _
                    by_cases h0 : x < 0
                    · exact .inl h0
                    · right
                      by_cases h1 : (k : Int) ≤ x
                      · exact h1
                      · exact absurd ⟨x.toNat, by omega, by omega⟩ hxj
                  clear hxj
                  go_wp2_with fail
                  refine (l1_is HIN.out).mono ?_
                  rintro e w3 ⟨rfl, m3, rfl⟩
                  go_wp2
                  go_roundg (nk - (q + 1))
                  case rel => exact ⟨q + 1, by omega, rfl, by go_num, (hown.drewN _).cong (fun a b _ hb => (leftK_not HX2.out HXJ.out a b hb).symm), below_drewN hbel _⟩
                  case measure => omega
              · have HD : Hid (k ≤ q ∨ nk ≤ q) := by show _ ∨ _; omega
                by_cases hql : q < nk
                · have hqz : decide (q < k) = false := by simp; omega
                  have hqz' : decide ((q : Int) < (k : Int)) = false := by simp; omega
                  clear hgo
                  go_wp2
                  go_roundg (p - (s + 1))
                  case rel => exact ⟨s + 1, by omega, rfl, by go_num, hown.cong (fun a b ha _ => leftF_take HX.out (by have := hrl.out; have := HD.out; omega)), hbel⟩
                  case measure => omega
                · clear hgo
                  go_wp2
                  go_roundg (p - (s + 1))
                  case rel => exact ⟨s + 1, by omega, rfl, by go_num, hown.cong (fun a b ha _ => leftF_take HX.out (by have := hrl.out; have := HD.out; omega)), hbel⟩
                  case measure => omega
          · go_wp2
            go_ret
            obtain rfl : s = p := by omega
            rw [List.take_of_length_le (by rw [HL'.out]; exact Nat.le_refl _)] at hown
            exact ⟨A2, k, c2, rfl, hown.tight, hbel⟩
  · have h0 := bad_pos HL.out hT
    have HV : Hid (leftL t fr = []) := leftL_no hT
    have HT := Lib.hid hT; clear hT
    have hn : n ≤ 1048576 := by rw [← HL.out]; exact HS.out.1
    go_enter Try.func37, Try.ntmps37
    go_wp2
    go_loopg [5, 6] n (fun g s5 i wr => n = g ∧ i = .int .i64 0 ∧ s5 = .slice (some ⟨w.heap.size, 0, none⟩) 0 0 ∧ wr = w.alloc (.cells #[] 30))
    case atStart => exact ⟨rfl, rfl, rfl, rfl⟩
    case round =>
      obtain ⟨rfl, rfl, rfl, rfl⟩ := hrel
      go_wp2_with (first | (go_at_call 23; refine (retB_is (b := false) ⟨fun h => by simp at h, fun h => absurd h HT.out⟩ (spec_TrafficValid _ _ c t _ (hx.below hb0 (Nat.le_refl _)) HS.out)).mono ?_; rintro e w1 ⟨rfl, m1, rfl⟩) | fail)
      go_loopg [7] p (fun g i wr => ∃ s : Nat, s ≤ p ∧ g = p - s ∧ i = .int .i64 s ∧ Below (w.alloc (.cells #[] 30)).heap.size (w.alloc (.cells #[] 30)) wr)
      case atStart => exact ⟨0, Nat.zero_le _, rfl, rfl, below_drewN (Below.refl _ _) _⟩
      case round =>
        obtain ⟨s, hs, rfl, rfl, hbel0⟩ := hrel
        have hbel := bstep hb0 hbel0
        by_cases hlt : s < p
        · obtain ⟨b, off, Ak, nk, ck, r, rfl, HX, hc0, hrd, hnk⟩ := hy.at hlt
          have hnk' : nk ≤ 1048576 := by have := HS'.out.row HX.out; have h2 := hrd.len.out; omega
          have hcr := (hbel.cell (p := ⟨b, off + s, none⟩) (World.block_lt_of_cell? _ _ hc0)).trans hc0
          obtain ⟨wo, hwo⟩ : ∃ wo : World, wo = wr := ⟨_, rfl⟩
          subst hwo
          go_wp2
          go_loopg [8] nk (fun g i wr => nk = g ∧ i = .int .i64 0 ∧ wr = wo)
          case atStart => exact ⟨rfl, rfl, rfl⟩
          case round =>
            obtain ⟨rfl, rfl, rfl⟩ := hrel
            by_cases h0k : 0 < nk
            · go_wp2
              go_roundg (p - (s + 1))
              case rel => exact ⟨s + 1, by omega, rfl, by go_num, hbel0⟩
              case measure => omega
            · obtain rfl : nk = 0 := by omega
              go_wp2
              go_roundg (p - (s + 1))
              case rel => exact ⟨s + 1, by omega, rfl, by go_num, hbel0⟩
              case measure => omega
        · go_wp2
          go_ret
          exact ⟨_, 0, 0, rfl, by rw [HV.out]; exact (hT0.tight.below hbel0 (Nat.le_refl _)).up hbel0.size, hbel⟩
end Go.Proofs.Ythfjlellaojdmaa
