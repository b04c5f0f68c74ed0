/- findWay of the program: an alternating way, as fw tells. Condition: at most 6 inputs, numbers from 0 to 1000. -/
import Derived.Test.Ythfjlellaojdmaa5g
import Derived.Test.Ythfjlellaojdmaa5b
namespace Go.Proofs.Ythfjlellaojdmaa
open Go.RowKit
set_option linter.unusedSimpArgs false
set_option linter.unusedVariables false
def FwOk (n : Nat) (ow : List Int) : Prop := ow.length = n ∧ ∀ (c : Nat) x, ow[c]? = some x → -1 ≤ x ∧ x < n
theorem FwOk.set {n o i : Nat} {ow : List Int} (h : FwOk n ow) (hi : i < n) : FwOk n (ow.set o (i : Int)) := by
  refine ⟨by simp [h.1], fun c x hx => ?_⟩
  rw [List.getElem?_set] at hx
  split at hx
  · split at hx
    · injection hx with hx; omega
    · cases hx
  · exact h.2 c x hx
section
variable {n : Nat} {P : Nat → Nat → Bool} {rec : Nat → List Bool → List Int → Rw} {i o : Nat} {tr : List Bool} {ow : List Int}
theorem fw_at (ho : o < n) : fwStep n P rec i (n - o) tr ow =
    if P i o = true ∧ tr.getD o true = false then
      if ow.getD o (-1) < 0 then (true, tr.set o true, ow.set o i)
      else if (rec (ow.getD o (-1)).toNat (tr.set o true) ow).1 = true then
        (true, (rec (ow.getD o (-1)).toNat (tr.set o true) ow).2.1, (rec (ow.getD o (-1)).toNat (tr.set o true) ow).2.2.set o i)
      else fwStep n P rec i (n - (o + 1)) (rec (ow.getD o (-1)).toNat (tr.set o true) ow).2.1 (rec (ow.getD o (-1)).toNat (tr.set o true) ow).2.2
    else fwStep n P rec i (n - (o + 1)) tr ow := by
  obtain ⟨k, hk⟩ : ∃ k, n - (o + 1) = k := ⟨_, rfl⟩
  have e1 : n - o = k + 1 := by omega
  have e2 : n - (k + 1) = o := by omega
  rw [hk, e1]
  show (if P i (n - (k + 1)) = true ∧ tr.getD (n - (k + 1)) true = false then _ else _) = _
  rw [e2]
theorem fw_skip (ho : o < n) (h : ¬ (P i o = true ∧ tr.getD o true = false)) : fwStep n P rec i (n - o) tr ow = fwStep n P rec i (n - (o + 1)) tr ow := by rw [fw_at ho, if_neg h]
theorem getD_is {α : Type} {l : List α} {k : Nat} {x d : α} (h : l[k]? = some x) : l.getD k d = x := by rw [List.getD_eq_getElem?_getD, h]; rfl
theorem fw_free (ho : o < n) (hp : P i o = true) (ht : tr[o]? = some false) {x : Int} (hx : ow[o]? = some x) (h0 : x < 0) : fwStep n P rec i (n - o) tr ow = (true, tr.set o true, ow.set o i) := by
  rw [fw_at ho, if_pos ⟨hp, getD_is ht⟩, if_pos (by rw [getD_is hx]; exact h0)]
theorem fw_way (ho : o < n) (hp : P i o = true) (ht : tr[o]? = some false) {x : Nat} (hx : ow[o]? = some (x : Int)) (hr : (rec x (tr.set o true) ow).1 = true) :
    fwStep n P rec i (n - o) tr ow = (true, (rec x (tr.set o true) ow).2.1, (rec x (tr.set o true) ow).2.2.set o i) := by
  rw [fw_at ho, if_pos ⟨hp, getD_is ht⟩, if_neg (by rw [getD_is hx]; omega), getD_is hx, Int.toNat_natCast, if_pos hr]
theorem fw_on (ho : o < n) (hp : P i o = true) (ht : tr[o]? = some false) {x : Nat} (hx : ow[o]? = some (x : Int)) (hr : (rec x (tr.set o true) ow).1 = false) :
    fwStep n P rec i (n - o) tr ow = fwStep n P rec i (n - (o + 1)) (rec x (tr.set o true) ow).2.1 (rec x (tr.set o true) ow).2.2 := by
  rw [fw_at ho, if_pos ⟨hp, getD_is ht⟩, if_neg (by rw [getD_is hx]; omega), getD_is hx, Int.toNat_natCast, if_neg (by rw [hr]; simp)]
end
/-- What findWay hands back. -/
def FwRet (w : World) (B F Bt Bo gt ct go co : Nat) (A : Option Addr) (n c : Nat) (BB : Nat → Nat → Int) (u : Nat) (r : Rw) (e : Ending) (w' : World) : Prop :=
  e = .returned (.bool r.1) ∧ Hid (r.2.1.length = n ∧ untr r.2.1 ≤ u ∧ FwOk n r.2.2) ∧ OwnL bv w' Bt 4 (some ⟨gt, 0, none⟩) n ct r.2.1 ∧ OwnL iv w' Bo 3 (some ⟨go, 0, none⟩) n co r.2.2 ∧ OwnT w' B F A n c (tabF n BB) ∧ Kb (fun g => g = gt ∨ g = go) w w'
set_option maxRecDepth 100000 in
set_option maxHeartbeats 2000000 in
theorem fw_walk (A : Option Addr) (n c : Nat) (BB : Nat → Nat → Int) (B F Bt Bo gt ct go co : Nat) (hn : n ≤ 6) (hb : Bd n BB 0 1000) (hFt : F ≤ gt) (hFo : F ≤ go) (hne : gt ≠ go)
    (rec : Nat → List Bool → List Int → Rw) (i : Nat) (tr : List Bool) (ow : List Int) (w : World) (hi : i < n) (ht : tr.length = n) (ho : FwOk n ow)
    (hT : OwnT w B F A n c (tabF n BB)) (hU : OwnL bv w Bt 4 (some ⟨gt, 0, none⟩) n ct tr) (hO : OwnL iv w Bo 3 (some ⟨go, 0, none⟩) n co ow)
    (hrec : ∀ (i' : Nat) (tr' : List Bool) (ow' : List Int) (w' : World), i' < n → tr'.length = n → untr tr' < untr tr → FwOk n ow' → OwnT w' B F A n c (tabF n BB) → OwnL bv w' Bt 4 (some ⟨gt, 0, none⟩) n ct tr' → OwnL iv w' Bo 3 (some ⟨go, 0, none⟩) n co ow' →
      Calls Try.prog 68 #[.slice A n c, .int .i64 i', .slice (some ⟨gt, 0, none⟩) n ct, .slice (some ⟨go, 0, none⟩) n co] w' (FwRet w' B F Bt Bo gt ct go co A n c BB (untr tr') (rec i' tr' ow'))) :
    Calls Try.prog 68 #[.slice A n c, .int .i64 i, .slice (some ⟨gt, 0, none⟩) n ct, .slice (some ⟨go, 0, none⟩) n co] w (FwRet w B F Bt Bo gt ct go co A n c BB (untr tr) (fwStep n (posP BB) rec i n tr ow)) := by
  have HB := Lib.hid hb; clear hb
  have HREC := Lib.hid hrec; clear hrec
  obtain ⟨V, HV⟩ : ∃ V, Hid (fwStep n (posP BB) rec i n tr ow = V) := ⟨_, rfl⟩
  rw [HV.out]
  obtain ⟨u0, hu0⟩ : ∃ u, Hid (untr tr = u) := ⟨_, rfl⟩
  have HI0 : Hid (tr.length = n ∧ untr tr ≤ u0 ∧ FwOk n ow ∧ fwStep n (posP BB) rec i (n - 0) tr ow = V) := ⟨ht, Nat.le_of_eq hu0.out, ho, HV.out⟩
  rw [hu0.out]
  rw [hu0.out] at HREC
  clear ht ho HV
  obtain ⟨g, gk, ck, y, hA, q1, q2, q3, q4, q5, q6, q7, q8, q9, HY, q10, q11, HP⟩ := hT.atF hi hi
  subst hA
  clear HY q10 q11 HP q6 q7 q8 q9 q1 q2 q3
  go_enter Try.func68, Try.ntmps68
  go_wp2
  go_loopg [16] n (fun g' s16 wr => ∃ (o : Nat) (tr1 : List Bool) (ow1 : List Int), o ≤ n ∧ g' = n - o ∧ s16 = .int .i64 o ∧ OwnT wr B F (some ⟨g, 0, none⟩) n c (tabF n BB) ∧ wr.cell? ⟨g, i, none⟩ = some (.slice (some ⟨gk, 0, none⟩) n ck) ∧ OwnL bv wr Bt 4 (some ⟨gt, 0, none⟩) n ct tr1 ∧ OwnL iv wr Bo 3 (some ⟨go, 0, none⟩) n co ow1 ∧ Hid (tr1.length = n ∧ untr tr1 ≤ u0 ∧ FwOk n ow1 ∧ fwStep n (posP BB) rec i (n - o) tr1 ow1 = V) ∧ Kb (fun g => g = gt ∨ g = go) w wr)
  case atStart => exact ⟨0, tr, ow, Nat.zero_le _, rfl, rfl, hT, q4, hU, hO, HI0, Kb.refl _ _⟩
  case round =>
    clear hT q4 hU hO HI0
    obtain ⟨o, tr1, ow1, hol, rfl, rfl, hT, q4, hU, hO, HI, hkb⟩ := hrel
    by_cases hlt : o < n
    · obtain ⟨g', gk', ck', y, hA, r1, r2, r3, r4, r5, r6, r7, r8, r9, HY, r10, r11, HP⟩ := hT.atF hi hlt
      injection hA with hA; injection hA with hA; subst hA
      rw [q4] at r4
      injection r4 with r4; injection r4 with r41 r42 r43; injection r41 with r41; injection r41 with r41; subst r41 r43
      clear r42 HP
      have hyb : 0 ≤ y ∧ y ≤ 1000 := by rw [← HY.out]; exact HB.out i o hi hlt
      obtain ⟨hy0, hy1⟩ := hyb
      obtain ⟨gu, u, hA, s1, s2, HU, s3, s4⟩ := hU.at hlt
      injection hA with hA; injection hA with hA; subst hA
      obtain ⟨gv, x, hA, p1, p2, HX, p3, p4⟩ := hO.at hlt
      injection hA with hA; injection hA with hA; subst hA
      by_cases hy : y ≤ 0
      · have HS : Hid (fwStep n (posP BB) rec i (n - (o + 1)) tr1 ow1 = V) := by
          show _ = _
          rw [← HI.out.2.2.2, fw_skip hlt (fun h => by have h1 := h.1; unfold posP at h1; rw [HY.out] at h1; simp at h1; omega)]
        go_wp2
        go_roundg (n - (o + 1))
        case rel => exact ⟨o + 1, tr1, ow1, by omega, rfl, by go_num, hT, q4, hU, hO, ⟨HI.out.1, HI.out.2.1, HI.out.2.2.1, HS.out⟩, hkb⟩
        case measure => omega
      · have hyz : decide (y ≤ 0) = false := by simpa using hy
        have HPo : Hid (posP BB i o = true) := by show _ = _; unfold posP; rw [HY.out]; simp; omega
        cases u with
        | true =>
          have HS : Hid (fwStep n (posP BB) rec i (n - (o + 1)) tr1 ow1 = V) := by
            show _ = _
            rw [← HI.out.2.2.2, fw_skip hlt (fun h => by have h1 := h.2; rw [getD_is HU.out] at h1; cases h1)]
          go_wp2
          go_roundg (n - (o + 1))
          case rel => exact ⟨o + 1, tr1, ow1, by omega, rfl, by go_num, hT, q4, hU, hO, ⟨HI.out.1, HI.out.2.1, HI.out.2.2.1, HS.out⟩, hkb⟩
          case measure => omega
        | false =>
          have HUN : Hid (untr (tr1.set o true) + 1 = untr tr1) := untr_set (getD_is HU.out)
          have hU1 := hU.set o true
          have hO1 := hO.far ⟨gt, o, none⟩ (.bool true) (fun e => by rw [blk_some] at e; injection e with e; simp at e; omega)
          have hT1 := hT.far ⟨gt, o, none⟩ (.bool true) (.inr hFt)
          have hk1 := hkb.set (p := ⟨gt, o, none⟩) (.inl (.inl rfl)) (.bool true)
          have e1 : (wr.setCell ⟨gt, o, none⟩ (.bool true)).cell? ⟨go, o, none⟩ = some (iv x) := by rw [World.cell?_setCell_other _ _ _ _ (fun e => by injection e with e; omega)]; exact p3
          have e2 : (wr.setCell ⟨gt, o, none⟩ (.bool true)).cell? ⟨g, i, none⟩ = some (.slice (some ⟨gk, 0, none⟩) n ck) := by rw [World.cell?_setCell_other _ _ _ _ (fun e => by injection e with e; omega)]; exact q4
          by_cases hx : x < 0
          · have HV : Hid ((true, tr1.set o true, ow1.set o (i : Int)) = V) := by show _ = _; rw [← HI.out.2.2.2, fw_free hlt HPo.out HU.out HX.out hx]
            have hO2 := hO1.set o (i : Int)
            have hU2 := hU1.far ⟨go, o, none⟩ (.int .i64 i) (fun e => by rw [blk_some] at e; injection e with e; simp at e; omega)
            have hT2 := hT1.far ⟨go, o, none⟩ (.int .i64 i) (.inr hFo)
            have hk2 := hk1.set (p := ⟨go, o, none⟩) (.inl (.inr rfl)) (.int .i64 i)
            go_wp2
            go_ret
            rw [← HV.out]
            exact ⟨rfl, ⟨by simp [HI.out.1], by have h1 := HUN.out; have h2 := HI.out.2.1; show untr (tr1.set o true) ≤ u0; omega, HI.out.2.2.1.set hi⟩, hU2, hO2, hT2, hk2⟩
          · have hxz : decide (x < 0) = false := by simp; omega
            obtain ⟨v, rfl⟩ := Int.eq_ofNat_of_zero_le (show 0 ≤ x by omega)
            have hv : v < n := by have := (HI.out.2.2.1.2 o _ HX.out).2; omega
            have HC : Hid (Calls Try.prog 68 #[.slice (some ⟨g, 0, none⟩) n c, .int .i64 v, .slice (some ⟨gt, 0, none⟩) n ct, .slice (some ⟨go, 0, none⟩) n co] (wr.setCell ⟨gt, o, none⟩ (.bool true)) (FwRet (wr.setCell ⟨gt, o, none⟩ (.bool true)) B F Bt Bo gt ct go co (some ⟨g, 0, none⟩) n c BB (untr (tr1.set o true)) (rec v (tr1.set o true) ow1))) :=
              HREC.out v (tr1.set o true) ow1 _ hv (by simp [HI.out.1]) (by have h1 := HUN.out; have h2 := HI.out.2.1; omega) HI.out.2.2.1 hT1 hU1 hO1
            go_wp2_with fail
            refine HC.out.mono ?_
            obtain ⟨R, HR⟩ : ∃ R, Hid (rec v (tr1.set o true) ow1 = R) := ⟨_, rfl⟩
            rw [HR.out]
            rintro e w5 ⟨rfl, HL5, hU5, hO5, hT5, hk5⟩
            have hkb5 := hk1.trans hk5
            have q45 : w5.cell? ⟨g, i, none⟩ = some (.slice (some ⟨gk, 0, none⟩) n ck) := (World.cell?_of_block (hk5.block g (World.block_lt_of_cell? _ _ e2) (fun h => by rcases h with h | h <;> omega))).trans e2
            clear e1 e2 hU1 hO1 hT1 hk1 hk5 hT hU hO hkb q4 p1 p2 p3 p4 s1 s2 s3 s4 r2 r7 r10 r11
            obtain ⟨rb, rt, ro⟩ := R
            cases rb with
            | true =>
              have HV : Hid ((true, rt, ro.set o (i : Int)) = V) := by show _ = _; rw [← HI.out.2.2.2, fw_way hlt HPo.out HU.out HX.out (by rw [HR.out]), HR.out]
              obtain ⟨gv, x', hA, p1, p2, HX', p3, p4⟩ := hO5.at hlt
              injection hA with hA; injection hA with hA; subst hA
              have hO2 := hO5.set o (i : Int)
              have hU2 := hU5.far ⟨go, o, none⟩ (.int .i64 i) (fun e => by rw [blk_some] at e; injection e with e; simp at e; omega)
              have hT2 := hT5.far ⟨go, o, none⟩ (.int .i64 i) (.inr hFo)
              have hk2 := hkb5.set (p := ⟨go, o, none⟩) (.inl (.inr rfl)) (.int .i64 i)
              go_wp2
              go_ret
              rw [← HV.out]
              exact ⟨rfl, ⟨HL5.out.1, by have h1 := HUN.out; have h2 := HI.out.2.1; have h3 := HL5.out.2.1; show untr rt ≤ u0; omega, HL5.out.2.2.set hi⟩, hU2, hO2, hT2, hk2⟩
            | false =>
              have HS : Hid (fwStep n (posP BB) rec i (n - (o + 1)) rt ro = V) := by show _ = _; rw [← HI.out.2.2.2, fw_on hlt HPo.out HU.out HX.out (by rw [HR.out]), HR.out]
              go_wp2
              go_roundg (n - (o + 1))
              case rel => exact ⟨o + 1, rt, ro, by omega, rfl, by go_num, hT5, q45, hU5, hO5, ⟨HL5.out.1, by have h1 := HUN.out; have h2 := HI.out.2.1; have h3 := HL5.out.2.1; show untr rt ≤ u0; omega, HL5.out.2.2, HS.out⟩, hkb5⟩
              case measure => omega
    · go_wp2
      go_ret
      have HV : Hid ((false, tr1, ow1) = V) := by
        have h1 := HI.out.2.2.2
        rw [show n - o = 0 by omega] at h1
        exact h1
      rw [← HV.out]
      exact ⟨rfl, ⟨HI.out.1, HI.out.2.1, HI.out.2.2.1⟩, hU, hO, hT, hkb⟩
theorem impl_findWay (A : Option Addr) (n c : Nat) (BB : Nat → Nat → Int) (B F Bt Bo gt ct go co : Nat) (hn : n ≤ 6) (hb : Bd n BB 0 1000) (hFt : F ≤ gt) (hFo : F ≤ go) (hne : gt ≠ go) :
    ∀ (f i : Nat) (tr : List Bool) (ow : List Int) (w : World), i < n → tr.length = n → FwOk n ow → untr tr ≤ f → OwnT w B F A n c (tabF n BB) → OwnL bv w Bt 4 (some ⟨gt, 0, none⟩) n ct tr → OwnL iv w Bo 3 (some ⟨go, 0, none⟩) n co ow →
    Calls Try.prog 68 #[.slice A n c, .int .i64 i, .slice (some ⟨gt, 0, none⟩) n ct, .slice (some ⟨go, 0, none⟩) n co] w (FwRet w B F Bt Bo gt ct go co A n c BB (untr tr) (fw n (posP BB) f i tr ow)) := by
  intro f
  induction f with
  | zero =>
    intro i tr ow w hi ht ho hu hT hU hO
    have h := fw_walk A n c BB B F Bt Bo gt ct go co hn hb hFt hFo hne (fun _ tr ow => (false, tr, ow)) i tr ow w hi ht ho hT hU hO (fun i' tr' ow' w' _ _ h => by omega)
    have e : ∀ k, k ≤ n → fwStep n (posP BB) (fun _ tr ow => (false, tr, ow)) i k tr ow = (false, tr, ow) := by
      intro k
      induction k with
      | zero => intro _; rfl
      | succ k ih =>
        intro hk
        have hnt : ¬ (posP BB i (n - (k + 1)) = true ∧ tr.getD (n - (k + 1)) true = false) := fun h => by have := untr_set h.2; omega
        have h1 := fw_skip (n := n) (P := posP BB) (rec := fun _ tr ow => (false, tr, ow)) (i := i) (o := n - (k + 1)) (tr := tr) (ow := ow) (by omega) hnt
        rw [show n - (n - (k + 1)) = k + 1 by omega, show n - (n - (k + 1) + 1) = k by omega] at h1
        rw [h1]; exact ih (by omega)
    rw [e n (Nat.le_refl _)] at h
    exact h
  | succ f ih =>
    intro i tr ow w hi ht ho hu hT hU hO
    exact fw_walk A n c BB B F Bt Bo gt ct go co hn hb hFt hFo hne (fw n (posP BB) f) i tr ow w hi ht ho hT hU hO (fun i' tr' ow' w' h1 h2 h3 h4 h5 h6 h7 => ih i' tr' ow' w' h1 h2 h4 (by omega) h5 h6 h7)
end Go.Proofs.Ythfjlellaojdmaa
