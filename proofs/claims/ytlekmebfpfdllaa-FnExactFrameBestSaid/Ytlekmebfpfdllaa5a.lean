/- The helpers of the laws on tables: szIntSS (how large), toIntSS (a copy), eqIntSS (the same), markIntSS and heldIntSS (marks). Condition: tables of at most 1048576 numbers. -/
import Derived.Test.YtlekmebfpfdllaaTab2
namespace Go.Proofs.Ytlekmebfpfdllaa
open Go.RowKit
set_option linter.unusedSimpArgs false
set_option linter.unusedVariables false
theorem quiet_bel {P : Program} {f : FuncId} {args : Array Value} {w : World} {v : Ending} (h : Calls P f args w fun e w' => e = v ∧ ∃ m, w' = w.drewN m) : Calls P f args w fun e w' => e = v ∧ Below w.heap.size w w' :=
  h.mono fun _ _ ⟨he, m, hm⟩ => ⟨he, by rw [hm]; exact below_drewN (Below.refl _ _) m⟩
theorem retB_bel {P : Program} {f : FuncId} {args : Array Value} {w : World} {p : Prop} (h : Calls P f args w (RetB p w)) : Calls P f args w (RetM p w) :=
  h.mono fun _ _ ⟨b, he, hb, m, hm⟩ => ⟨b, he, hb, by rw [hm]; exact below_drewN (Below.refl _ _) m⟩
theorem retB_is {P : Program} {f : FuncId} {args : Array Value} {w : World} {p : Prop} {b : Bool} (hb : b = true ↔ p) (h : Calls P f args w (RetB p w)) : Calls P f args w fun e w' => e = .returned (.bool b) ∧ ∃ m, w' = w.drewN m :=
  h.mono fun _ _ ⟨v, he, hv, m, hm⟩ => ⟨by rw [he]; exact ret_bool (Bool.eq_iff_iff.2 (hv.out.trans hb.symm)), m, hm⟩
theorem szIntS_any (A : Option Addr) (n c : Nat) (L : Int) (w : World) (hn : n ≤ maxLen) (h0 : 0 ≤ L) (h1 : L ≤ 1048576) :
    Calls Try.prog 29 #[.slice A n c, .int .i64 L] w fun e w' => e = .returned (.int .i64 (if L - n < 0 then -1 else L - n)) ∧ ∃ m, w' = w.drewN m := by
  unfold maxLen at hn
  by_cases h : L - n < 0
  · have H := Lib.hid h
    go_enter Try.func29, Try.ntmps29
    go_wp2
    go_ret
    exact ⟨rfl, 0, rfl⟩
  · have H := Lib.hid h
    go_enter Try.func29, Try.ntmps29
    go_wp2
    go_ret
    exact ⟨rfl, 0, rfl⟩
/-- What szIntSS tells: a number from 0 on only if the table is small. -/
def SzT (L : Int) (n : Nat) (rows : List (List Int)) (w : World) (e : Ending) (w' : World) : Prop := ∃ r : Int, e = .returned (.int .i64 r) ∧ Hid (0 ≤ r → r ≤ L ∧ (n : Int) + flat rows + r ≤ L) ∧ ∃ m, w' = w.drewN m
theorem SzT.no {L : Int} {n : Nat} {rows : List (List Int)} {w : World} (m : Nat) : SzT L n rows w (.returned (.int .i64 (-1))) (w.drewN m) := ⟨-1, rfl, (fun h => absurd h (by omega)), m, rfl⟩
theorem szIntSS_any (A : Option Addr) (n c : Nat) (rows : List (List Int)) (L : Int) (w : World) (hx : RdT w A n rows) (hn : n ≤ maxLen) (hr : ∀ r ∈ rows, r.length ≤ maxLen) (h0 : 0 ≤ L) (h1 : L ≤ 1048576) :
    Calls Try.prog 10 #[.slice A n c, .int .i64 L] w (SzT L n rows w) := by
  have HL := hx.len
  have HR := Lib.hid hr; clear hr
  have hn' := hn
  unfold maxLen at hn'
  by_cases hbig : L - (n : Int) < 0
  · go_enter Try.func10, Try.ntmps10
    go_wp2
    go_ret
    exact SzT.no 0
  · go_enter Try.func10, Try.ntmps10
    go_wp2
    go_loopg [1, 5] n (fun g l i wr => ∃ (k m : Nat) (M : Int), k ≤ n ∧ g = n - k ∧ i = .int .i64 k ∧ l = .int .i64 M ∧ 0 ≤ M ∧ M ≤ L ∧ Hid ((n : Int) + flat (rows.take k) + M = L) ∧ wr = w.drewN m)
    case atStart => exact ⟨0, 0, L - (n : Int), Nat.zero_le _, rfl, rfl, rfl, by omega, by omega, (by show _ = _; simp [flat]; omega), rfl⟩
    case round =>
      obtain ⟨k, m, M, hk, rfl, rfl, rfl, hM0, hM1, HM, rfl⟩ := hrel
      by_cases hlt : k < n
      · obtain ⟨b, off, Ak, nk, ck, r, rfl, HX, hc, hrd, hnk⟩ := hx.at hlt
        have hnk' : nk ≤ maxLen := by have := HR.out r (List.mem_of_getElem? HX.out); have h2 := hrd.len.out; omega
        go_wp2_with fail
        refine (szIntS_any Ak nk ck M _ hnk' hM0 (by omega)).mono ?_
        rintro e w2 ⟨rfl, m2, rfl⟩
        by_cases hs : M - (nk : Int) < 0
        · rw [if_pos hs]
          go_wp2
          go_ret
          exact SzT.no _
        · rw [if_neg hs]
          have hz : decide (M - (nk : Int) < 0) = false := by simp; omega
          go_wp2
          go_roundg (n - (k + 1))
          case rel => exact ⟨k + 1, m + m2, M - (nk : Int), by omega, rfl, by go_num, rfl, by omega, by omega, (by show _ = _; have h3 := flat_take HX.out; have h4 := HM.out; have h5 := hrd.len.out; omega), by simp⟩
          case measure => omega
      · go_wp2
        go_ret
        obtain rfl : k = n := by omega
        exact ⟨M, rfl, (fun _ => ⟨by omega, by have h4 := HM.out; rw [flat_all (by rw [HL.out]; omega)] at h4; omega⟩), _, rfl⟩
theorem set_fillT {xs : List (List Int)} {x : List Int} {n k : Nat} (hl : xs.length = n) (hk : k < n) (h : xs[k]? = some x) :
    (xs.take k ++ List.replicate (n - k) []).set k x = xs.take (k + 1) ++ List.replicate (n - (k + 1)) [] := set_fill hl hk h
theorem toIntSS_any (A : Option Addr) (n c : Nat) (rows : List (List Int)) (w : World) (hx : RdT w A n rows) (hs : SmT rows) :
    Calls Try.prog 12 #[.slice A n c] w fun e w' => ∃ A' c', e = .returned (.slice A' n c') ∧ OwnT w' w.heap.size w'.heap.size A' n c' rows ∧ Below w.heap.size w w' := by
  have HL := hx.len
  have hn : n ≤ 1048576 := by rw [← HL.out]; exact hs.1
  have HS := Lib.hid hs; clear hs
  have hmk := run_make_row' (P := Try.prog) 22 30 (.slice none 0 0) 24 Try.underlying22 info_row rfl .i64 .i64 n (by omega) (by omega)
  go_enter Try.func12, Try.ntmps12
  go_wp2
  clear hmk
  go_loopg [4] n (fun g i wr => ∃ k : Nat, k ≤ n ∧ g = n - k ∧ i = .int .i64 k ∧ OwnT wr w.heap.size wr.heap.size (some ⟨w.heap.size, 0, none⟩) n n (rows.take k ++ List.replicate (n - k) []) ∧ Below w.heap.size w wr)
  case atStart => exact ⟨0, Nat.zero_le _, rfl, rfl, OwnT.tight (OwnT.made w n (by unfold maxLen; omega) (Nat.le_refl _)), below_box w _⟩
  case round =>
    obtain ⟨k, hk, rfl, rfl, hown, hbel⟩ := hrel
    by_cases hlt : k < n
    · obtain ⟨b, off, Ak, nk, ck, r, rfl, HX, hc, hrd, hnk⟩ := (hx.below hbel (Nat.le_refl _)).at hlt
      obtain ⟨g', Ak', nk', ck', r', hA, hB, hg', hF, HY, gc, gf, ho', hne'⟩ := hown.at hlt
      injection hA with hA; injection hA with hA; subst hA
      have hnk' : nk ≤ 1048576 := by have := HS.out.row HX.out; have h2 := hrd.len.out; omega
      go_wp2_with fail
      refine (toIntS_any Ak nk ck r _ hrd hnk').mono ?_
      rintro e w2 ⟨A2, c2, rfl, h2, b2⟩
      have hz := hbel.size
      have hz2 := b2.size
      have gf2 : w2.frozen? ⟨w.heap.size, k, none⟩ = false := by rw [b2.frozen (p := ⟨w.heap.size, k, none⟩) (by simpa using hg')]; exact gf
      have gc2 := (b2.cell (p := ⟨w.heap.size, k, none⟩) (by simpa using hg')).trans gc
      go_wp2
      go_roundg (n - (k + 1))
      case rel => exact ⟨k + 1, by omega, rfl, by go_num, by rw [← set_fillT HL.out hlt HX.out]; exact OwnT.tight (hown.putNew b2 hlt h2 (F' := w2.heap.size) (by omega) (by omega)), (bstep hbel b2).setCell (Nat.le_refl _) _⟩
      case measure => omega
    · go_wp2
      go_ret
      obtain rfl : k = n := by omega
      refine ⟨_, _, rfl, ?_, hbel⟩
      rw [Nat.sub_self, List.take_of_length_le (by rw [HL.out]; exact Nat.le_refl _)] at hown
      simpa using hown
theorem eqIntSS_any (A A' : Option Addr) (n n' c c' : Nat) (xs ys : List (List Int)) (w : World) (hx : RdT w A n xs) (hy : RdT w A' n' ys) (hs : SmT xs) (hs' : SmT ys) :
    Calls Try.prog 14 #[.slice A n c, .slice A' n' c'] w (RetB (xs = ys) w) := by
  have HL := hx.len
  have HL' := hy.len
  have hn : n ≤ 1048576 := by rw [← HL.out]; exact hs.1
  have HS := Lib.hid hs; clear hs
  have HS' := Lib.hid hs'; clear hs'
  by_cases hne : n = n'
  · subst hne
    go_enter Try.func14, Try.ntmps14
    go_wp2
    go_loopg [5] n (fun g i wr => ∃ k m : Nat, k ≤ n ∧ g = n - k ∧ i = .int .i64 k ∧ Hid (xs.take k = ys.take k) ∧ wr = w.drewN m)
    case atStart => exact ⟨0, 0, Nat.zero_le _, rfl, rfl, rfl, rfl⟩
    case round =>
      obtain ⟨k, m, hk, rfl, rfl, hall, rfl⟩ := hrel
      by_cases hlt : k < n
      · obtain ⟨b, off, Ak, nk, ck, r, rfl, HX, hc, hrd, hnk⟩ := hx.at hlt
        obtain ⟨b', off', Ak', nk', ck', r', rfl, HX', hc', hrd', hnk'⟩ := hy.at hlt
        have h1 : nk ≤ 1048576 := by have := HS.out.row HX.out; have h2 := hrd.len.out; omega
        have h2 : nk' ≤ 1048576 := by have := HS'.out.row HX'.out; have h2 := hrd'.len.out; omega
        have HQ : Hid (∀ b : Bool, (b = true ↔ r = r') → ∀ q, Calls Try.prog 31 #[.slice Ak nk ck, .slice Ak' nk' ck'] (w.drewN (m + q)) fun e w' => e = .returned (.bool b) ∧ ∃ k, w' = (w.drewN (m + q)).drewN k) :=
          fun b hb q => retB_is hb (eqIntS_any Ak Ak' nk nk' ck ck' r r' _ (hrd.drewN _) (hrd'.drewN _) h1 h2)
        by_cases hrr : r = r'
        · have key := HQ.out true (by simp [hrr])
          have HE := Lib.hid hrr; clear hrr
          go_wp2
          go_quiet ((go_at_call 31; exact quiet_add (key _)))
          go_wp2
          go_roundg (n - (k + 1))
          case rel => exact ⟨k + 1, _, by omega, rfl, by go_num, take_eq_snoc hall.out (by rw [← HE.out]; exact HX.out) HX'.out, rfl⟩
          case measure => omega
        · have key := HQ.out false (by simp [hrr])
          have HE := Lib.hid hrr; clear hrr
          go_wp2
          go_quiet ((go_at_call 31; exact quiet_add (key _)))
          go_wp2
          go_ret
          exact RetB.no2 (ne_of_at HX.out HX'.out HE.out) _ _
      · go_wp2
        go_ret
        exact RetB.yes (eq_of_take hall.out (by rw [HL.out]; omega) (by rw [HL'.out]; omega)) _
  · go_enter Try.func14, Try.ntmps14
    go_wp2
    go_ret
    exact RetB.no (fun e => hne (by rw [← HL.out, ← HL'.out, e])) 0
theorem sm_same {xs zs : List (List Int)} (h : SameLen xs zs) (hs : SmT xs) : SmT zs := ⟨by rw [h.len]; exact hs.1, by rw [h.flatAll]; exact hs.2⟩
theorem markIntSS_any (A : Option Addr) (n c : Nat) (rows : List (List Int)) (K : Int) (B F : Nat) (w : World) (h : OwnT w B F A n c rows) (hs : SmT rows) (hK : 0 ≤ K) (hK' : K ≤ 100000000) :
    Calls Try.prog 19 #[.slice A n c, .int .i64 K] w fun e w' => ∃ zs, e = .returned (.int .i64 (K + flat rows)) ∧ Hid (SameLen rows zs ∧ MkT K n zs) ∧ OwnT w' B F A n c zs ∧ Kb (fun g => B ≤ g ∧ g < F) w w' := by
  have HL := h.len
  have hn : n ≤ 1048576 := by rw [← HL.out]; exact hs.1
  have HS := Lib.hid hs; clear hs
  go_enter Try.func19, Try.ntmps19
  go_wp2
  go_loopg [1, 5] n (fun g s i wr => ∃ (k : Nat) (zs : List (List Int)) (fl : Nat), k ≤ n ∧ g = n - k ∧ i = .int .i64 k ∧ s = .int .i64 (K + fl) ∧ Hid (fl = flat (rows.take k)) ∧ Hid (SameLen rows zs ∧ MkT K k zs) ∧ OwnT wr B F A n c zs ∧ Kb (fun g => B ≤ g ∧ g < F) w wr)
  case atStart => exact ⟨0, rows, 0, Nat.zero_le _, rfl, rfl, by simp, (by show _ = _; simp [flat]), ⟨SameLen.refl _, fun i r hi => absurd hi (Nat.not_lt_zero _)⟩, h, Kb.refl _ _⟩
  case round =>
    obtain ⟨k, zs, fl, hk, rfl, rfl, rfl, HF, HM, hown, hk'⟩ := hrel
    by_cases hlt : k < n
    · obtain ⟨g', Ak, nk, ck, r, rfl, hB, hg', hgF, HY, gc, gf, ho, hne⟩ := hown.at hlt
      have hl : k < rows.length := by rw [HL.out]; exact hlt
      have hfl1 : flat (rows.take k) + nk ≤ 1048576 := by
        have h1 := flatT_at (List.getElem?_eq_getElem hl)
        have h2 := HM.out.1.at (List.getElem?_eq_getElem hl) HY.out
        have h3 := ho.len.out
        have h4 := HS.out.2
        omega
      have hfl : fl + nk ≤ 1048576 := by rw [HF.out]; exact hfl1
      clear hfl1
      go_wp2_with fail
      refine (markIntS_any Ak nk ck r (K + fl) B _ ho (by omega) (by omega) (by omega)).mono ?_
      rintro e w2 ⟨rz, rfl, HZ, h2, G2⟩
      have hlz := h2.len
      have hzl : Hid (rz.length = r.length) := by show _ = _; rw [hlz.out]; exact ho.len.out.symm
      go_wp2
      go_roundg (n - (k + 1))
      case rel =>
        refine ⟨k + 1, zs.set k rz, fl + nk, by omega, rfl, by go_num, by simp; omega, ?_, ⟨HM.out.1.set HY.out hzl.out, ?_⟩, hown.back hlt gc G2 h2, ?_⟩
        · show _ = _
          have h1 := flat_take (List.getElem?_eq_getElem hl)
          have h2' := HM.out.1.at (List.getElem?_eq_getElem hl) HY.out
          have h3 := ho.len.out
          have h4 := HF.out
          omega
        · refine HM.out.2.succ HY.out ?_
          rw [HM.out.1.flat, ← HF.out]
          exact marks_same HZ.out hlz.out |> fun h => by rw [hlz.out]; exact h
        · exact hk'.grown G2 (fun g hg => .inl ⟨(ho.lt hg).1, (hne g hg).2⟩)
      case measure => omega
    · go_wp2
      go_ret
      obtain rfl : k = n := by omega
      exact ⟨zs, by rw [HF.out, flat_all (by rw [HL.out]; omega)]; rfl, HM.out, hown, hk'⟩
theorem heldIntSS_any (A : Option Addr) (n c : Nat) (zs : List (List Int)) (K : Int) (w : World) (h : RdT w A n zs) (hm : MkT K n zs) (hs : SmT zs) (hK : 0 ≤ K) (hK' : K ≤ 100000000) :
    Calls Try.prog 20 #[.slice A n c, .int .i64 K] w fun e w' => e = .returned (.int .i64 (K + flat zs)) ∧ ∃ m, w' = w.drewN m := by
  have HL := h.len
  have hn : n ≤ 1048576 := by rw [← HL.out]; exact hs.1
  have HM := Lib.hid hm; clear hm
  have HS := Lib.hid hs; clear hs
  go_enter Try.func20, Try.ntmps20
  go_wp2
  go_loopg [1, 5] n (fun g s i wr => ∃ k m fl : Nat, k ≤ n ∧ g = n - k ∧ i = .int .i64 k ∧ s = .int .i64 (K + fl) ∧ Hid (fl = flat (zs.take k)) ∧ wr = w.drewN m)
  case atStart => exact ⟨0, 0, 0, Nat.zero_le _, rfl, rfl, by simp, (by show _ = _; simp [flat]), rfl⟩
  case round =>
    obtain ⟨k, m, fl, hk, rfl, rfl, rfl, HF, rfl⟩ := hrel
    by_cases hlt : k < n
    · obtain ⟨b, off, Ak, nk, ck, r, rfl, HX, hc, hrd, hnk⟩ := h.at hlt
      have hfl1 : flat (zs.take k) + nk ≤ 1048576 := by
        have h1 := flatT_at HX.out
        have h3 := hrd.len.out
        have h4 := HS.out.2
        omega
      have hfl : fl + nk ≤ 1048576 := by rw [HF.out]; exact hfl1
      clear hfl1
      go_wp2_with fail
      refine (heldIntS_any Ak nk ck r (K + fl) _ (hrd.drewN _) (by rw [HF.out]; exact marks_same (HM.out k r hlt HX.out) hrd.len.out) (by omega) (by omega) (by omega)).mono ?_
      rintro e w2 ⟨rfl, m2, rfl⟩
      have hz : decide (K + (fl : Int) + (nk : Int) < 0) = false := by simp; omega
      go_wp2
      go_roundg (n - (k + 1))
      case rel => exact ⟨k + 1, m + m2, fl + nk, by omega, rfl, by go_num, by simp; omega, (by show _ = _; have h1 := flat_take HX.out; have h2 := hrd.len.out; have h3 := HF.out; omega), by simp⟩
      case measure => omega
    · go_wp2
      go_ret
      obtain rfl : k = n := by omega
      exact ⟨by rw [HF.out, flat_all (by rw [HL.out]; omega)]; rfl, m, rfl⟩
end Go.Proofs.Ytlekmebfpfdllaa
