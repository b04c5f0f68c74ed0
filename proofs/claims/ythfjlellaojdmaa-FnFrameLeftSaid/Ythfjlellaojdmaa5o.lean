/- FrameOk of the program. Condition: tables of at most 1048576 numbers. -/
import Derived.Test.Ythfjlellaojdmaa5l2
import Derived.Test.YthfjlellaojdmaaPerm
namespace Go.Proofs.Ythfjlellaojdmaa
open Go.RowKit
set_option linter.unusedSimpArgs false
set_option linter.unusedVariables false
theorem SeenTo.skip {xs : List Int} {k n : Nat} {ss : List Bool} {x : Int} (h : SeenTo xs k n ss) (hx : xs[k]? = some x) (h0 : x < 0) : SeenTo xs (k + 1) n ss := by
  refine ⟨h.1, fun j => ?_⟩
  rw [h.2 j, take_snoc' hx, List.mem_append]
  simp; intro _ e; omega
/-- The first k numbers of a slot are good. -/
def SlotTo (n : Nat) (r : List Int) (k : Nat) : Prop := ∀ (i : Nat) x, i < k → r[i]? = some x → -1 ≤ x ∧ x < n ∧ (0 ≤ x → x ∉ r.take i)
theorem SlotTo.zero (n : Nat) (r : List Int) : SlotTo n r 0 := fun _ _ h => absurd h (Nat.not_lt_zero _)
theorem SlotTo.succ {n k : Nat} {r : List Int} {x : Int} (h : SlotTo n r k) (hx : r[k]? = some x) (h0 : -1 ≤ x ∧ x < n ∧ (0 ≤ x → x ∉ r.take k)) : SlotTo n r (k + 1) := by
  intro i y hi hy
  rcases (by omega : i < k ∨ i = k) with h1 | rfl
  · exact h i y h1 hy
  · rw [hx] at hy; injection hy with hy; subst hy; exact h0
theorem SlotTo.all {n k : Nat} {r : List Int} (h : SlotTo n r k) (hl : r.length = n) (hk : n ≤ k) : SlotOk n r :=
  ⟨hl, fun i x hx => h i x (by have := (List.getElem?_eq_some_iff.1 hx).1; omega) hx⟩
def SlotsTo (n : Nat) (fr : List (List Int)) (s : Nat) : Prop := ∀ (i : Nat) r, i < s → fr[i]? = some r → SlotOk n r
theorem SlotsTo.zero (n : Nat) (fr : List (List Int)) : SlotsTo n fr 0 := fun _ _ h => absurd h (Nat.not_lt_zero _)
theorem SlotsTo.succ {n s : Nat} {fr : List (List Int)} {r : List Int} (h : SlotsTo n fr s) (hr : fr[s]? = some r) (h0 : SlotOk n r) : SlotsTo n fr (s + 1) := by
  intro i y hi hy
  rcases (by omega : i < s ∨ i = s) with h1 | rfl
  · exact h i y h1 hy
  · rw [hr] at hy; injection hy with hy; subst hy; exact h0
theorem SlotsTo.all {n s : Nat} {fr : List (List Int)} (h : SlotsTo n fr s) (hs : fr.length ≤ s) : ∀ r ∈ fr, SlotOk n r := by
  intro r hr
  obtain ⟨i, hi⟩ := List.getElem?_of_mem hr
  exact h i r (by have := (List.getElem?_eq_some_iff.1 hi).1; omega) hi
/-- Nothing is below 0. -/
def Nn (n : Nat) (G : Nat → Nat → Int) : Prop := ∀ i j, i < n → j < n → 0 ≤ G i j
theorem Nn.cong {n : Nat} {G G' : Nat → Nat → Int} (h : Nn n G) (e : ∀ i j, i < n → j < n → G i j = G' i j) : Nn n G' := fun i j hi hj => by rw [← e i j hi hj]; exact h i j hi hj
theorem leftK_neg {f : Nat → Nat → Int} {n : Nat} {fr : List (List Int)} {s k j : Nat} {r : List Int} (h : FrameOkL n f fr) (hr : fr[s]? = some r) (hx : r[k]? = some (j : Int)) (hk : k < n) (hj : j < n) : 0 < leftK f (fr.take s) r k k j := by
  have h1 := h.2.2 k j hk hj
  have h2 := cnt_take_le fr (s + 1) k j
  have h3 := leftF_take (f := f) hr (k := k + 1) (i := k) (j := j) (.inl (by omega))
  have h4 := leftK_sent (f := f) (fr := fr.take s) hx k j
  rw [upd_same] at h4
  unfold leftF at h3
  omega
set_option maxHeartbeats 2000000 in
theorem impl_FrameOk (A : Option Addr) (n c : Nat) (t : List (List Int)) (A' : Option Addr) (p c' : Nat) (fr : List (List Int)) (w : World) (hx : RdT w A n t) (hy : RdT w A' p fr) (hc : n ≤ c) (hc' : p ≤ c') (hs : SmT t) (hs' : SmT fr) :
    Calls Try.prog 11 #[.slice A n c, .slice A' p c'] w (RetM (FrOk t fr) w) := by
  have HL := hx.len
  have HL' := hy.len
  have hp : p ≤ 1048576 := by rw [← HL'.out]; exact hs'.1
  have HS := Lib.hid hs; clear hs
  have HS' := Lib.hid hs'; clear hs'
  by_cases hT : TrafOk t
  · by_cases hp36 : 36 < p
    · have HV : Hid (¬ FrOk t fr) := fun h => by have h1 := h.2.1; have h2 := HL'.out; omega
      have HT := Lib.hid hT; clear hT
      go_enter Try.func11, Try.ntmps11
      go_wp2_with (go_at_call 40; refine (retB_is (b := true) ⟨fun _ => HT.out, fun _ => rfl⟩ (impl_TrafficValid A n c t _ hx HS.out)).mono ?_; rintro e w1 ⟨rfl, m1, rfl⟩)
      go_ret
      exact RetM.no HV.out (below_drewN (Below.refl _ _) _)
    · have h6 : n ≤ 6 := by rw [← HL.out]; exact hT.six
      have HB : Hid (∀ i j, 0 ≤ fOf t i j ∧ fOf t i j ≤ 6) := fun i j => hT.bd i j
      have HF : Hid (t = tabF n (fOf t)) := by have := hT.tab; rwa [HL.out] at this
      have HV : Hid (FrOk t fr ↔ FrameOkL n (fOf t) fr) := ⟨fun h => by have := h.2; rwa [HL.out] at this, fun h => ⟨hT, by rw [HL.out]; exact h⟩⟩
      have HT := Lib.hid hT; clear hT
      obtain ⟨F, hF⟩ : ∃ F, fOf t = F := ⟨_, rfl⟩
      rw [hF] at HB HV HF
      clear hF
      go_enter Try.func11, Try.ntmps11
      go_wp2_with (go_at_call 40; refine (retB_is (b := true) ⟨fun _ => HT.out, fun _ => rfl⟩ (impl_TrafficValid A n c t _ hx HS.out)).mono ?_; rintro e w1 ⟨rfl, m1, rfl⟩)
      refine (impl_copyTable A n c t _ (hx.drewN _) HS.out).mono ?_
      rintro e w2 ⟨A2, c2, rfl, h2, b2⟩
      have b2' : Below w.heap.size w w2 := bstep (below_drewN (Below.refl _ _) m1) b2
      have h2' : OwnT w2 w.heap.size w2.heap.size A2 n c2 t := h2
      clear b2 h2
      obtain ⟨Z, hZ⟩ : ∃ Z, w2.heap.size = Z := ⟨_, rfl⟩
      rw [hZ] at h2'
      have hZ0 : w.heap.size ≤ Z := by rw [← hZ]; exact b2'.size
      go_wp2
      go_loopg [23] p (fun g i wr => ∃ s : Nat, s ≤ p ∧ g = p - s ∧ i = .int .i64 s ∧ OwnT wr w.heap.size Z A2 n c2 (tabF n (leftF F (fr.take s))) ∧ Hid (SlotsTo n fr s ∧ Nn n (leftF F (fr.take s))) ∧ Z ≤ wr.heap.size ∧ Below w.heap.size w wr)
      case atStart => exact ⟨0, Nat.zero_le _, rfl, rfl, by rw [HF.out] at h2'; exact h2'.cong (fun i j _ _ => by simp [leftF, cnt]), ⟨SlotsTo.zero _ _, fun i j _ _ => by have := (HB.out i j).1; simpa [leftF, cnt] using this⟩, by omega, b2'⟩
      case round =>
        clear b2' h2' hZ
        obtain ⟨s, hs, rfl, rfl, hown, HN, hZr, hbel⟩ := hrel
        by_cases hlt : s < p
        · obtain ⟨b, off, Ak, nk, ck, r, rfl, HX, hc0, hrd, hnk⟩ := hy.at hlt
          have hrl := hrd.len
          have hcr := (hbel.cell (p := ⟨b, off + s, none⟩) (World.block_lt_of_cell? _ _ hc0)).trans hc0
          clear hc0
          have hnk' : nk ≤ 1048576 := by have := HS'.out.row HX.out; have h2 := hrl.out; omega
          by_cases hne : nk = n
          · subst hne
            have hmk := run_make_row' (P := Try.prog) 40 4 (.bool false) 1 Try.underlying40 info_bool rfl .i64 .i64 nk (by omega) (by omega)
            have hU := OwnL.made (emb := bv) (e := 4) wr false nk (by unfold maxLen; omega) wr.heap.size (Nat.le_refl _)
            have hownA := hown.alloc (.cells (madeCells #[bv false] nk) 4)
            have hbelA := bbox hbel (by omega) (.cells (madeCells #[bv false] nk) 4)
            obtain ⟨U, hUe⟩ : ∃ U, wr.heap.size = U := ⟨_, rfl⟩
            rw [hUe] at hU hZr
            go_wp2
            go_loopg [37] nk (fun g i wr => ∃ (k : Nat) (ss : List Bool), k ≤ nk ∧ g = nk - k ∧ i = .int .i64 k ∧ OwnT wr w.heap.size Z A2 nk c2 (tabF nk (leftK F (fr.take s) r k)) ∧ OwnL bv wr U 4 (some ⟨U, 0, none⟩) nk nk ss ∧ Hid (SeenTo r k nk ss ∧ SlotTo nk r k ∧ Nn nk (leftK F (fr.take s) r k)) ∧ Below w.heap.size w wr)
            case atStart => exact ⟨0, _, Nat.zero_le _, rfl, rfl, hownA.cong (fun i j _ _ => (leftK_zero _ _ _ _ _).symm), hU, ⟨SeenTo.zero _ _, SlotTo.zero _ _, HN.out.2.cong (fun i j _ _ => (leftK_zero _ _ _ _ _).symm)⟩, hbelA⟩
            case round =>
              clear hcr hown hbel hU hownA hbelA hmk
              obtain ⟨k, ss, hk, rfl, rfl, hown, hU, HI, hbel⟩ := hrel
              by_cases hkl : k < nk
              · obtain ⟨b2, off2, x, rfl, HX2, hcx⟩ := (hrd.below hbel (Nat.le_refl _)).at hkl
                have HNO : Hid (¬ (-1 ≤ x ∧ x < nk ∧ (0 ≤ x → x ∉ r.take k)) → ¬ FrOk t fr) := fun h hf => h ((HV.out.1 hf).2.1 r (List.mem_of_getElem? HX.out) |>.2 k x HX2.out)
                by_cases hx1 : x = -1
                · subst hx1
                  go_wp2
                  go_roundg (nk - (k + 1))
                  case rel => exact ⟨k + 1, ss, by omega, rfl, by go_num, hown.cong (fun a b _ hb => (leftK_not (n := nk) HX2.out (.inl (by omega)) a b hb).symm), hU, ⟨HI.out.1.skip HX2.out (by omega), HI.out.2.1.succ HX2.out ⟨by omega, by omega, fun h => by omega⟩, HI.out.2.2.cong (fun a b _ hb => (leftK_not (n := nk) HX2.out (.inl (by omega)) a b hb).symm)⟩, hbel⟩
                  case measure => omega
                · have hx1z : (x == -1) = false := by simpa using hx1
                  by_cases hx0 : x < 0
                  · go_wp2
                    go_ret
                    exact RetM.no (HNO.out (fun h => by omega)) hbel
                  · have hx0z : decide (x < 0) = false := by simp; omega
                    obtain ⟨j, rfl⟩ := Int.eq_ofNat_of_zero_le (show 0 ≤ x by omega)
                    by_cases hjn : nk ≤ j
                    · have hjz : decide ((nk : Int) ≤ (j : Int)) = true := by simp; omega
                      go_wp2
                      go_ret
                      exact RetM.no (HNO.out (fun h => by omega)) hbel
                    · have hjz : decide ((nk : Int) ≤ (j : Int)) = false := by simp; omega
                      have hjz' : decide (nk ≤ j) = false := by simp; omega
                      have hjl : j < nk := by omega
                      obtain ⟨gu, u, hA, hBu, hgu, HU, huc, huf⟩ := hU.at hjl
                      injection hA with hA; injection hA with hA; subst hA
                      cases u with
                      | true =>
                        have HM : Hid ((j : Int) ∈ r.take k) := (HI.out.1.out hjl HU.out).1 rfl
                        go_wp2
                        go_ret
                        exact RetM.no (HNO.out (fun h => h.2.2 (by omega) HM.out)) hbel
                      | false =>
                        have HM : Hid ((j : Int) ∉ r.take k) := fun hm => by have := (HI.out.1.out hjl HU.out).2 hm; cases this
                        obtain ⟨g, gk, ck2, y, rfl, q1, q2, q3, q4, q5, q6, q7, q8, q9, HY, q10, q11, HP⟩ := hown.atF hkl hjl
                        have hyb : 0 ≤ y ∧ y ≤ 6 := by
                          have h1 := leftK_bd (f := F) (fr := fr.take s) (r := r) (k := k) (HB.out k j)
                          have h2 := HI.out.2.2 k j hkl hjl
                          rw [HY.out] at h1 h2
                          omega
                        obtain ⟨hy1, hy2⟩ := hyb
                        by_cases hy0 : y = 0
                        · subst hy0
                          go_wp2
                          go_ret
                          exact RetM.no (fun hf => by have h1 := leftK_neg (HV.out.1 hf) HX.out HX2.out hkl hjl; rw [HY.out] at h1; omega) hbel
                        · have hy0z : (y == 0) = false := by simpa using hy0
                          have e1 : (wr.setCell ⟨U, j, none⟩ (.bool true)).cell? ⟨g, k, none⟩ = some (.slice (some ⟨gk, 0, none⟩) nk ck2) := by rw [World.cell?_setCell_other _ _ _ _ (fun e => by injection e with e; omega)]; exact q4
                          have e2 : (wr.setCell ⟨U, j, none⟩ (.bool true)).cell? ⟨gk, j, none⟩ = some (iv y) := by rw [World.cell?_setCell_other _ _ _ _ (fun e => by injection e with e; omega)]; exact q10
                          have hU2 := (hU.set j true).far ⟨gk, j, none⟩ (.int .i64 (y - 1)) (fun e => by rw [blk_some] at e; injection e with e; simp at e; omega)
                          have hown1 := hown.far ⟨U, j, none⟩ (.bool true) (.inr (by simpa using hZr))
                          have hown2 := hown1.put hkl e1 (tabF_at hkl) j (y - 1)
                          rw [tabF_set hkl hjl] at hown2
                          clear hown1
                          go_wp2
                          go_roundg (nk - (k + 1))
                          case rel =>
                            refine ⟨k + 1, _, by omega, rfl, by go_num, hown2.cong (fun a b _ _ => by rw [leftK_sent HX2.out, HY.out]), hU2, ⟨HI.out.1.succ HX2.out hjl, HI.out.2.1.succ HX2.out ⟨by omega, by omega, fun _ => HM.out⟩, fun a b ha hb => ?_⟩, (hbel.setCell (by simp; omega) _).setCell (by simpa using q6) _⟩
                            rw [leftK_sent HX2.out]
                            have h1 := HI.out.2.2 a b ha hb
                            unfold upd
                            split
                            · rw [HY.out]; omega
                            · exact h1
                          case measure => omega
              · go_wp2
                go_roundg (p - (s + 1))
                case rel =>
                  obtain rfl : k = nk := by omega
                  exact ⟨s + 1, by omega, rfl, by go_num, hown.cong (fun a b ha _ => leftF_take HX.out (.inl ha)), ⟨HN.out.1.succ HX.out (HI.out.2.1.all hrl.out (Nat.le_refl _)), HI.out.2.2.cong (fun a b ha _ => leftF_take HX.out (.inl ha))⟩, by have := (hU.lt (g := U) rfl).2; omega, hbel⟩
                case measure => omega
          · have hnez : ((nk : Int) != (n : Int)) = true := by simp; omega
            go_wp2
            go_ret
            exact RetM.no (fun hf => hne (by have := ((HV.out.1 hf).2.1 r (List.mem_of_getElem? HX.out)).1; have := hrl.out; omega)) hbel
        · go_wp2
          go_ret
          obtain rfl : s = p := by omega
          refine RetM.yes (HV.out.2 ⟨by have := HL'.out; omega, HN.out.1.all (by rw [HL'.out]; exact Nat.le_refl _), fun i j hi hj => ?_⟩) hbel
          have h1 := HN.out.2 i j hi hj
          rw [List.take_of_length_le (by rw [HL'.out]; exact Nat.le_refl _)] at h1
          unfold leftF at h1; omega
  · have HV : Hid (¬ FrOk t fr) := fun h => hT h.1
    have HT := Lib.hid hT; clear hT
    go_enter Try.func11, Try.ntmps11
    go_wp2_with (go_at_call 40; refine (retB_is (b := false) ⟨fun h => by simp at h, fun h => absurd h HT.out⟩ (impl_TrafficValid A n c t _ hx HS.out)).mono ?_; rintro e w1 ⟨rfl, m1, rfl⟩)
    go_ret
    exact RetM.no HV.out (below_drewN (Below.refl _ _) _)
end Go.Proofs.Ythfjlellaojdmaa
