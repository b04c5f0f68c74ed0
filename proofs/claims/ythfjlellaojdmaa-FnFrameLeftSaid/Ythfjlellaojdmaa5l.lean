/- copyTable, newTable and FrameLeft of the program and of the reference. Condition: tables of at most 1048576 numbers. -/
import Derived.Test.Ythfjlellaojdmaa5t
import Derived.Test.YthfjlellaojdmaaCopy
import Derived.StillTailTactics
namespace Go.Proofs.Ythfjlellaojdmaa
open Go.RowKit
set_option linter.unusedSimpArgs false
set_option linter.unusedVariables false
section
variable {w w' : World} {B F : Nat} {A : Option Addr} {n c : Nat} {G : Nat → Nat → Int}
/-- One number of a square table of the call's own: where it lies, and what is when it is written. -/
theorem OwnT.atF (h : OwnT w B F A n c (tabF n G)) {k j : Nat} (hk : k < n) (hj : j < n) :
    ∃ g gk ck x, A = some ⟨g, 0, none⟩ ∧ B ≤ g ∧ g < w.heap.size ∧ g < F ∧ w.cell? ⟨g, k, none⟩ = some (.slice (some ⟨gk, 0, none⟩) n ck) ∧ n ≤ ck ∧ B ≤ gk ∧ gk < w.heap.size ∧ gk < F ∧ gk ≠ g ∧ Hid (G k j = x) ∧ w.cell? ⟨gk, j, none⟩ = some (iv x) ∧ w.frozen? ⟨gk, j, none⟩ = false ∧
      Hid (∀ y, OwnT (w.setCell ⟨gk, j, none⟩ (.int .i64 y)) B F (some ⟨g, 0, none⟩) n c (tabF n (upd G k j y))) := by
  obtain ⟨g, gk, nk, ck, x, rfl, h1, h2, h3, hc, h4, h5, h6, h7, h8, h9, HX, hx, hf⟩ := h.at2 hk (tabF_at hk) (j := j) (by rw [rowF_len]; exact hj)
  rw [rowF_len] at h8; subst h8
  have e := HX.out
  rw [rowF_at hj] at e; injection e with e
  refine ⟨g, gk, ck, x, rfl, h1, h2, h3, hc, h9, h4, h5, h6, h7, e, hx, hf, fun y => ?_⟩
  have := h.put hk hc (tabF_at hk) j y
  rwa [tabF_set hk hj] at this
theorem OwnT.cong {G' : Nat → Nat → Int} (h : OwnT w B F A n c (tabF n G)) (e : ∀ i j, i < n → j < n → G i j = G' i j) : OwnT w B F A n c (tabF n G') := by rw [← tabF_congr e]; exact h
end
theorem flat_const {rows : List (List Int)} {m : Nat} (h : ∀ r ∈ rows, r.length ≤ m) : flat rows ≤ rows.length * m := by
  induction rows with
  | nil => simp [flat]
  | cons r rows ih =>
    have e : flat (r :: rows) = r.length + flat rows := by simp [flat]
    have h1 := h r (by simp)
    have h2 := ih (fun s hs => h s (by simp [hs]))
    rw [e, List.length_cons, Nat.add_mul]; omega
theorem tabF_sm {n : Nat} {G : Nat → Nat → Int} (hn : n ≤ 6) : SmT (tabF n G) := by
  have h := flat_const (rows := tabF n G) (m := 6) (fun r hr => by
    unfold tabF at hr
    obtain ⟨i, _, rfl⟩ := List.mem_map.1 hr
    rw [rowF_len]; exact hn)
  rw [tabF_len] at h
  refine ⟨by rw [tabF_len]; omega, by omega⟩
theorem left_sm {t fr : List (List Int)} (h : SmT t) (h' : SmT fr) : SmT (leftL t fr) := by
  by_cases hT : TrafOk t
  · rw [leftL_yes hT]; exact tabF_sm hT.six
  · rw [leftL_no hT]; exact SmT.nil
/-- A table of the call's own. -/
def RetT (rows : List (List Int)) (w : World) (e : Ending) (w' : World) : Prop := ∃ (A : Option Addr) (n c : Nat), e = .returned (.slice A n c) ∧ OwnT w' w.heap.size w'.heap.size A n c rows ∧ Below w.heap.size w w'
set_option maxHeartbeats 1000000 in
theorem impl_copyTable (A : Option Addr) (n c : Nat) (rows : List (List Int)) (w : World) (hx : RdT w A n rows) (hs : SmT rows) :
    Calls Try.prog 41 #[.slice A n c] w fun e w' => ∃ A' c', e = .returned (.slice A' n c') ∧ OwnT w' w.heap.size w'.heap.size A' n c' rows ∧ Below w.heap.size w w' := by
  have HL := hx.len
  have hn : n ≤ 1048576 := by rw [← HL.out]; exact hs.1
  have HS := Lib.hid hs; clear hs
  have hmk := run_make_row' (P := Try.prog) 23 30 (.slice none 0 0) 24 Try.underlying23 info_row rfl .i64 .i64 n (by omega) (by omega)
  go_enter Try.func41, Try.ntmps41
  go_wp2
  clear hmk
  go_loopg [11] n (fun g i wr => ∃ k : Nat, k ≤ n ∧ g = n - k ∧ i = .int .i64 k ∧ OwnT wr w.heap.size wr.heap.size (some ⟨w.heap.size, 0, none⟩) n n (rows.take k ++ List.replicate (n - k) []) ∧ Below w.heap.size w wr)
  case atStart => exact ⟨0, Nat.zero_le _, rfl, rfl, OwnT.tight (OwnT.made w n (by unfold maxLen; omega) (Nat.le_refl _)), below_box w _⟩
  case round =>
    obtain ⟨k, hk, rfl, rfl, hown, hbel⟩ := hrel
    by_cases hlt : k < n
    · obtain ⟨b, off, Ak, nk, ck, r, rfl, HX, hc0, hrd, hnk⟩ := hx.at hlt
      have hc := (hbel.cell (p := ⟨b, off + k, none⟩) (World.block_lt_of_cell? _ _ hc0)).trans hc0
      clear hc0
      obtain ⟨g', Ak', nk', ck', r', hA, hB, hg', hF, HY, gc, gf, ho', hne'⟩ := hown.at hlt
      injection hA with hA; injection hA with hA; subst hA
      have hnk' : nk ≤ 1048576 := by have := HS.out.row HX.out; have h2 := hrd.len.out; omega
      have hz := hbel.size
      clear ho' hne' HY
      have hmk := run_make_row' (P := Try.prog) 30 3 (.int .i64 0) 8 Try.underlying30 info_int rfl .i64 .i64 nk (by omega) (by omega)
      have hO1 := OwnL.made (emb := iv) (e := 3) wr (0 : Int) nk (by unfold maxLen; omega) wr.heap.size (Nat.le_refl _)
      have hT2 := OwnT.tight (hown.putNew (below_box wr (.cells (madeCells #[iv 0] nk) 3)) hlt hO1 (F' := wr.heap.size + 1) (by omega) (by simp))
      have hO2 := (hO1.far ⟨w.heap.size, k, none⟩ (.slice (some ⟨wr.heap.size, 0, none⟩) nk nk) (fun e => by rw [blk_some] at e; injection e with e; simp at e; omega)).mono (B' := w.heap.size) (by omega)
      have hb2 : Below w.heap.size w ((wr.alloc (.cells (madeCells #[iv 0] nk) 3)).setCell ⟨w.heap.size, k, none⟩ (.slice (some ⟨wr.heap.size, 0, none⟩) nk nk)) := (bbox hbel (by omega) _).setCell (Nat.le_refl _) _
      have gc0 : (wr.alloc (.cells (madeCells #[iv 0] nk) 3)).cell? ⟨w.heap.size, k, none⟩ = some (.slice Ak' nk' ck') := (World.cell?_of_block (Below.heap_alloc wr _ _ hg')).trans gc
      clear gc
      have hc2 := World.cell?_setCell_same _ ⟨w.heap.size, k, none⟩ (.slice (some ⟨wr.heap.size, 0, none⟩) nk nk) gc0
      have hrd2 := hrd.below hb2 (Nat.le_refl _)
      rw [World.setCell_alloc_past _ _ _ _ hg'] at hT2 hO2 hc2 hb2 hrd2
      have hs2 := hb2.size
      go_wp2_with (with_reducible refine wpList_copyL rfl (.tmp 25) (.tmp 26) _ _ rfl 3 (.int .i64 0) 8 Try.underlying30 info_int (fun _ => rfl) w.heap.size wr.heap.size nk nk ck _ r rfl hO2 Ak rfl hrd2 ?_)
      intro w3 O3 G3
      go_wp2
      go_roundg (n - (k + 1))
      case rel =>
        have h3 := hT2.back hlt hc2 G3 O3
        rw [List.set_set, set_fillT HL.out hlt HX.out] at h3
        exact ⟨k + 1, by omega, rfl, by go_num, OwnT.tight h3, bgrown hb2 G3 (by omega) (fun g hg => by injection hg; omega)⟩
      case measure => omega
    · go_wp2
      go_ret
      obtain rfl : k = n := by omega
      refine ⟨_, _, rfl, ?_, hbel⟩
      rw [Nat.sub_self, List.take_of_length_le (by rw [HL.out]; exact Nat.le_refl _)] at hown
      simpa using hown
theorem leftK_bd {f : Nat → Nat → Int} {fr : List (List Int)} {r : List Int} {k i j : Nat} (h : 0 ≤ f i j ∧ f i j ≤ 6) : -(fr.length : Int) - 1 ≤ leftK f fr r k i j ∧ leftK f fr r k i j ≤ 6 := by
  have h1 := cnt_len fr i j
  have h2 := cnt_nonneg fr i j
  have h3 := hit_bd i j r
  unfold leftK hitTo
  split <;> omega
theorem leftK_far {f : Nat → Nat → Int} {fr : List (List Int)} {r : List Int} {k n i j : Nat} (h : n ≤ k) (hi : i < n) : leftK f fr r k i j = leftK f fr r (k + 1) i j := by
  unfold leftK hitTo
  rw [if_pos (by omega), if_pos (by omega)]
theorem leftF_take {f : Nat → Nat → Int} {fr : List (List Int)} {s : Nat} {r : List Int} (h : fr[s]? = some r) {k i j : Nat} (hk : i < k ∨ r.length ≤ i) : leftK f (fr.take s) r k i j = leftF f (fr.take (s + 1)) i j := by rw [take_snoc h]; exact leftK_done hk
theorem RetT.no {rows : List (List Int)} {w w' : World} (h : rows = []) (hb : Below w.heap.size w w') (c : Nat) : RetT rows w (.returned (.slice none 0 0)) w' := ⟨none, 0, 0, rfl, by rw [h]; exact OwnT.nil, hb⟩
set_option maxHeartbeats 1000000 in
theorem impl_FrameLeft (A : Option Addr) (n c : Nat) (t : List (List Int)) (A' : Option Addr) (p c' : Nat) (fr : List (List Int)) (w : World) (hx : RdT w A n t) (hy : RdT w A' p fr) (hc : n ≤ c) (hc' : p ≤ c') (hs : SmT t) (hs' : SmT fr) :
    Calls Try.prog 14 #[.slice A n c, .slice A' p c'] w (RetT (leftL t fr) w) := by
  have HL := hx.len
  have HL' := hy.len
  have hp : p ≤ 1048576 := by rw [← HL'.out]; exact hs'.1
  have HS := Lib.hid hs; clear hs
  have HS' := Lib.hid hs'; clear hs'
  by_cases hT : TrafOk t
  · have HV : Hid (leftL t fr = tabF n (leftF (fOf t) fr)) := by show _ = _; rw [leftL_yes hT, HL.out]
    have h6 : n ≤ 6 := by rw [← HL.out]; exact hT.six
    have HB : Hid (∀ i j, 0 ≤ fOf t i j ∧ fOf t i j ≤ 6) := fun i j => hT.bd i j
    have HF : Hid (t = tabF n (fOf t)) := by have := hT.tab; rwa [HL.out] at this
    have HT := Lib.hid hT; clear hT
    obtain ⟨F, hF⟩ : ∃ F, fOf t = F := ⟨_, rfl⟩
    rw [hF] at HB HV HF
    clear hF
    rw [HV.out]
    go_enter Try.func14, Try.ntmps14
    go_wp2_with (go_at_call 40; refine (retB_is (b := true) ⟨fun _ => HT.out, fun _ => rfl⟩ (impl_TrafficValid A n c t _ hx HS.out)).mono ?_; rintro e w1 ⟨rfl, m1, rfl⟩)
    refine (impl_copyTable A n c t _ (hx.drewN _) HS.out).mono ?_
    rintro e w2 ⟨A2, c2, rfl, h2, b2⟩
    have b2' : Below w.heap.size w w2 := bstep (below_drewN (Below.refl _ _) m1) b2
    have h2' : OwnT w2 w.heap.size w2.heap.size A2 n c2 t := h2
    clear b2 h2
    obtain ⟨Z, hZ⟩ : ∃ Z, w2.heap.size = Z := ⟨_, rfl⟩
    rw [hZ] at h2'
    clear hZ
    go_wp2
    go_loopg [17] p (fun g i wr => ∃ s : Nat, s ≤ p ∧ g = p - s ∧ i = .int .i64 s ∧ OwnT wr w.heap.size Z A2 n c2 (tabF n (leftF F (fr.take s))) ∧ Below w.heap.size w wr)
    case atStart => exact ⟨0, Nat.zero_le _, rfl, rfl, by rw [HF.out] at h2'; exact h2'.cong (fun i j _ _ => by simp [leftF, cnt]), b2'⟩
    case round =>
      obtain ⟨s, hs, rfl, rfl, hown, hbel⟩ := hrel
      by_cases hlt : s < p
      · obtain ⟨b, off, Ak, nk, ck, r, rfl, HX, hc0, hrd, hnk⟩ := hy.at hlt
        have hrl := hrd.len
        have hnk' : nk ≤ 1048576 := by have := HS'.out.row HX.out; have h2 := hrl.out; omega
        have hcr := (hbel.cell (p := ⟨b, off + s, none⟩) (World.block_lt_of_cell? _ _ hc0)).trans hc0
        clear hc0
        go_wp2
        go_loopg [23] nk (fun g i wr => ∃ k : Nat, k ≤ nk ∧ g = nk - k ∧ i = .int .i64 k ∧ OwnT wr w.heap.size Z A2 n c2 (tabF n (leftK F (fr.take s) r k)) ∧ Below w.heap.size w wr)
        case atStart => exact ⟨0, Nat.zero_le _, rfl, rfl, hown.cong (fun i j _ _ => (leftK_zero _ _ _ _ _).symm), hbel⟩
        case round =>
          clear hcr hown hbel
          obtain ⟨k, hk, rfl, rfl, hown, hbel⟩ := hrel
          by_cases hkl : k < nk
          · obtain ⟨b2, off2, x, rfl, HX2, hcx⟩ := (hrd.below hbel (Nat.le_refl _)).at hkl
            by_cases hkn : k < n
            · by_cases hx0 : 0 ≤ x
              · obtain ⟨j, rfl⟩ := Int.eq_ofNat_of_zero_le hx0
                by_cases hjn : j < n
                · obtain ⟨g, gk, ck2, y, rfl, q1, q2, q3, q4, q5, q6, q7, q8, q9, HY, q10, q11, HP⟩ := hown.atF hkn hjn
                  have hyb : -(s : Int) - 1 ≤ y ∧ y ≤ 6 := by
                    have h1 := leftK_bd (f := F) (fr := fr.take s) (r := r) (k := k) (HB.out k j)
                    rw [HY.out, List.length_take] at h1
                    omega
                  obtain ⟨hy1, hy2⟩ := hyb
                  go_wp2
                  go_roundg (nk - (k + 1))
                  case rel => exact ⟨k + 1, by omega, rfl, by go_num, (HP.out (y - 1)).cong (fun a b _ _ => by rw [leftK_sent HX2.out, HY.out]), hbel.setCell (by simpa using q6) _⟩
                  case measure => omega
                · have hjz : decide ((j : Int) < (n : Int)) = false := by simp; omega
                  go_wp2
                  go_roundg (nk - (k + 1))
                  case rel => exact ⟨k + 1, by omega, rfl, by go_num, hown.cong (fun a b _ hb => (leftK_not HX2.out (.inr (by omega)) a b hb).symm), hbel⟩
                  case measure => omega
              · have hxz : decide (0 ≤ x) = false := by simp; omega
                go_wp2
                go_roundg (nk - (k + 1))
                case rel => exact ⟨k + 1, by omega, rfl, by go_num, hown.cong (fun a b _ hb => (leftK_not (n := n) HX2.out (.inl (by omega)) a b hb).symm), hbel⟩
                case measure => omega
            · have hkz : decide (k < n) = false := by simp; omega
              go_wp2
              go_roundg (nk - (k + 1))
              case rel => exact ⟨k + 1, by omega, rfl, by go_num, hown.cong (fun a b ha _ => leftK_far (by omega) ha), hbel⟩
              case measure => omega
          · go_wp2
            go_roundg (p - (s + 1))
            case rel => exact ⟨s + 1, by omega, rfl, by go_num, hown.cong (fun a b ha _ => leftF_take HX.out (by have := hrl.out; omega)), hbel⟩
            case measure => omega
      · go_wp2
        go_ret
        obtain rfl : s = p := by omega
        rw [List.take_of_length_le (by rw [HL'.out]; exact Nat.le_refl _)] at hown
        exact ⟨A2, n, c2, rfl, hown.tight, hbel⟩
  · have HV : Hid (leftL t fr = []) := leftL_no hT
    have HT := Lib.hid hT; clear hT
    go_enter Try.func14, Try.ntmps14
    go_wp2_with (go_at_call 40; refine (retB_is (b := false) ⟨fun h => by simp at h, fun h => absurd h HT.out⟩ (impl_TrafficValid A n c t _ hx HS.out)).mono ?_; rintro e w1 ⟨rfl, m1, rfl⟩)
    go_ret
    exact RetT.no HV.out (below_drewN (Below.refl _ _) _) 0
end Go.Proofs.Ythfjlellaojdmaa
