/- LoopSet of both. Condition: at most 1048576 numbers. -/
import Derived.Test.Ytiahpaakkijejaa3k2
namespace Go.Proofs.Ytiahpaakkijejaa
open Go.RowKit
set_option linter.unusedSimpArgs false
set_option linter.unusedVariables false
open Classical in
noncomputable def loopSetL (p : List Int) : List Bool × Bool := if linesB p.length = true ∧ PermOk p then (loopL (lvOf p.length) (pF p), true) else ([], false)
theorem ls_no {p : List Int} (h : ¬ (linesB p.length = true ∧ PermOk p)) : loopSetL p = ([], false) := by unfold loopSetL; rw [if_neg h]
theorem ls_yes {p : List Int} {n d : Nat} (hl : p.length = n) (hb : linesB n = true) (hd : lvOf n = d) (hp : PermOk p) : loopSetL p = (loopL d (pF p), true) := by
  subst hl
  unfold loopSetL; rw [if_pos ⟨hb, hp⟩, hd]
theorem ls_len (p : List Int) : ∀ (h : p.length ≤ 1048576), (loopSetL p).1.length ≤ 1048576 := fun h => by
  by_cases hc : linesB p.length = true ∧ PermOk p
  · rw [ls_yes rfl hc.1 rfl hc.2]
    show (loopL _ _).length ≤ _
    rw [loopL_len]
    have : lvOf p.length = 0 ∨ lvOf p.length = 1 ∨ lvOf p.length = 2 := by
      unfold lvOf
      by_cases h2 : (p.length : Int) = 2
      · rw [if_pos h2]; exact .inl rfl
      · rw [if_neg h2]
        by_cases h4 : (p.length : Int) = 4
        · rw [if_pos h4]; exact .inr (.inl rfl)
        · rw [if_neg h4]; exact .inr (.inr rfl)
    rcases this with h | h | h <;> rw [h] <;> simp [manyD]
  · rw [ls_no hc]; simp
theorem perm_eq {p : List Int} {n : Nat} (h : PermOk p) (hl : p.length = n) : p = permN n (pF p) := by
  apply List.ext_getElem?
  intro i
  by_cases hi : i < n
  · rw [permN_at hi, (pF_some h (by omega)).1]
  · rw [List.getElem?_eq_none (by omega), List.getElem?_eq_none (by rw [permN_len]; omega)]
theorem perm_isP {p : List Int} {n : Nat} (h : PermOk p) (hl : p.length = n) : IsP n (pF p) := by
  subst hl
  exact ⟨fun i hi => (pF_some h hi).2, fun i j hi hj he => pF_inj h hi hj he⟩
theorem lines_many (l : Int) : (lManyI l = -1 ∧ linesB l = false) ∨ (linesB l = true ∧ (l = 2 ∨ l = 4 ∨ l = 8) ∧ 0 ≤ lManyI l) := by
  by_cases h2 : l = 2
  · subst h2; right; exact ⟨rfl, .inl rfl, by decide⟩
  · by_cases h4 : l = 4
    · subst h4; right; exact ⟨rfl, .inr (.inl rfl), by decide⟩
    · by_cases h8 : l = 8
      · subst h8; right; exact ⟨rfl, .inr (.inr rfl), by decide⟩
      · left; exact ⟨by simp [lManyI, h2, h4, h8], by simp [linesB, h2, h4, h8]⟩
theorem impl_LoopSet (A : Option Addr) (n c : Nat) (p : List Int) (w : World) (hx : RdL iv w A n p) (hc : n ≤ c) (hn : n ≤ 1048576) :
    Calls Try.prog 36 #[.slice A n c] w (RetOB bv 4 (loopSetL p) w) := by
  have HL := hx.len
  rcases lines_many n with ⟨h1, h2⟩ | ⟨h2, h3, h1⟩
  · have HE : Hid (loopSetL p = ([], false)) := ls_no (fun h => by rw [HL.out, h2] at h; cases h.1)
    have H1 := Lib.hid h1
    clear h1 h2
    go_enter Try.func36, Try.ntmps36
    go_wp2_with fail
    refine (impl_LoopMany n _).mono ?_
    rintro e w1 ⟨rfl, m1, rfl⟩
    rw [H1.out]
    go_wp2_with fail
    go_ret2
    exact RetOB.mk [] HE.out OwnL.nil (below_drewN (Below.refl _ _) _)
  · by_cases hp : PermOk p
    · have hl := HL.out
      have hx2 := hx
      rw [perm_eq hp hl] at hx2
      rcases h3 with h3 | h3 | h3
      · obtain rfl : n = 2 := by omega
        rw [ls_yes hl h2 (d := 0) rfl hp]
        exact impl_LoopSet0 A c _ w (perm_isP hp hl) hx2 hc
      · obtain rfl : n = 4 := by omega
        rw [ls_yes hl h2 (d := 1) rfl hp]
        exact impl_LoopSet1 A c _ w (perm_isP hp hl) hx2 hc
      · obtain rfl : n = 8 := by omega
        rw [ls_yes hl h2 (d := 2) rfl hp]
        exact impl_LoopSet2 A c _ w (perm_isP hp hl) hx2 hc
    · have HE : Hid (loopSetL p = ([], false)) := ls_no (fun h => hp h.2)
      have HP := Lib.hid hp
      obtain ⟨V, HV⟩ : ∃ V, Hid (lManyI n = V) := ⟨_, rfl⟩
      rw [HV.out] at h1
      have z0 : decide (V < 0) = false := decide_eq_false (by omega)
      clear h2 h3 hp
      go_enter Try.func36, Try.ntmps36
      go_wp2_with fail
      refine (impl_LoopMany n _).mono ?_
      rintro e w1 ⟨rfl, m1, rfl⟩
      rw [HV.out]
      go_wp2_with fail
      refine (impl_isOrder A n c p _ (hx.drewN m1) hn).mono ?_
      rintro e w2 hw2
      obtain ⟨rfl, B2⟩ := retm_no hw2 HP.out
      have BW2 := bstep (below_drewN (Below.refl w.heap.size w) m1) B2
      clear hw2 B2
      go_wp2_with fail
      go_ret2
      exact RetOB.mk [] HE.out OwnL.nil BW2
theorem spec_LoopSet_yes (A : Option Addr) (n c : Nat) (p : List Int) (w : World) (hx : RdL iv w A n p) (hc : n ≤ c) (hn : n ≤ 1048576) (hp : PermOk p) (hb : linesB n = true) (d : Nat)
    (h : ∀ w', Below w.heap.size w w' → Calls Try.prog 66 #[.slice A n c] w' (RetO bv 4 (loopL d (pF p)) w')) :
    Calls Try.prog 35 #[.slice A n c] w (RetOB bv 4 (loopL d (pF p), true) w) := by
  have HB := Lib.hid hb
  have HP := Lib.hid hp
  clear hb hp
  go_enter Try.func35, Try.ntmps35
  go_wp2_with fail
  refine (spec_l1Perm A n c p _ hx hc hn).mono ?_
  rintro e w1 ⟨b1, rfl, hb1, m1, rfl⟩
  obtain rfl := hb1.out.2 HP.out
  clear hb1
  go_wp2_with fail
  refine (spec_l3Lines n _).mono ?_
  rintro e w2 ⟨rfl, m2, rfl⟩
  rw [HB.out]
  go_wp2_with fail
  refine (h _ (below_drewN (Below.refl _ _) _)).mono ?_
  rintro e w3 ⟨A3, n3, c3, rfl, O3, B3⟩
  go_wp2_with fail
  go_ret2
  exact RetOB.mk _ rfl O3 (bstep (below_drewN (Below.refl _ _) _) B3)
theorem spec_LoopSet (A : Option Addr) (n c : Nat) (p : List Int) (w : World) (hx : RdL iv w A n p) (hc : n ≤ c) (hn : n ≤ 1048576) :
    Calls Try.prog 35 #[.slice A n c] w (RetOB bv 4 (loopSetL p) w) := by
  have HL := hx.len
  by_cases hp : PermOk p
  · rcases lines_many n with ⟨h1, h2⟩ | ⟨h2, h3, h1⟩
    · have HE : Hid (loopSetL p = ([], false)) := ls_no (fun h => by rw [HL.out, h2] at h; cases h.1)
      have H2 := Lib.hid h2
      have HP := Lib.hid hp
      clear h1 h2 hp
      go_enter Try.func35, Try.ntmps35
      go_wp2_with fail
      refine (spec_l1Perm A n c p _ hx hc hn).mono ?_
      rintro e w1 ⟨b1, rfl, hb1, m1, rfl⟩
      obtain rfl := hb1.out.2 HP.out
      clear hb1
      go_wp2_with fail
      refine (spec_l3Lines n _).mono ?_
      rintro e w2 ⟨rfl, m2, rfl⟩
      rw [H2.out]
      go_wp2_with fail
      go_ret2
      exact RetOB.mk [] HE.out (OwnL.lit _ [] (by simp) (Nat.le_refl _)) ((below_drewN (Below.refl _ _) _).alloc (Nat.le_refl _) _)
    · have hl := HL.out
      have hx2 := hx
      rw [perm_eq hp hl] at hx2
      rcases h3 with h3 | h3 | h3
      · obtain rfl : n = 2 := by omega
        rw [ls_yes hl h2 (d := 0) rfl hp]
        exact spec_LoopSet_yes A 2 c p w hx hc hn hp h2 0 fun w' b => spec_l3Set0 A c _ w' (perm_isP hp hl) (hx2.below b (Nat.le_refl _)) hc
      · obtain rfl : n = 4 := by omega
        rw [ls_yes hl h2 (d := 1) rfl hp]
        exact spec_LoopSet_yes A 4 c p w hx hc hn hp h2 1 fun w' b => spec_l3Set1 A c _ w' (perm_isP hp hl) (hx2.below b (Nat.le_refl _)) hc
      · obtain rfl : n = 8 := by omega
        rw [ls_yes hl h2 (d := 2) rfl hp]
        exact spec_LoopSet_yes A 8 c p w hx hc hn hp h2 2 fun w' b => spec_l3Set2 A c _ w' (perm_isP hp hl) (hx2.below b (Nat.le_refl _)) hc
  · have HE : Hid (loopSetL p = ([], false)) := ls_no (fun h => hp h.2)
    have HP := Lib.hid hp
    clear hp
    go_enter Try.func35, Try.ntmps35
    go_wp2_with fail
    refine (spec_l1Perm A n c p _ hx hc hn).mono ?_
    rintro e w1 ⟨b1, rfl, hb1, m1, rfl⟩
    have hb0 : b1 = false := by
      cases b1 with
      | false => rfl
      | true => exact absurd (hb1.out.1 rfl) HP.out
    subst hb0
    clear hb1
    go_wp2_with fail
    go_ret2
    exact RetOB.mk [] HE.out (OwnL.lit _ [] (by simp) (Nat.le_refl _)) ((below_drewN (Below.refl _ _) _).alloc (Nat.le_refl _) _)
end Go.Proofs.Ytiahpaakkijejaa
