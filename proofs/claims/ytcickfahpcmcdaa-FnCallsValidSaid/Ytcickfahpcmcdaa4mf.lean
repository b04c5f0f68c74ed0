/- linesFree, middlesFrom and middlesTo of the program. Condition: valid calls, at most 1048576. -/
import Derived.Test.Ytcickfahpcmcdaa4dr
namespace Go.Proofs.Ytcickfahpcmcdaa
open Go.RowKit
set_option linter.unusedSimpArgs false
set_option linter.unusedVariables false
/-- A list of numbers, of the call's own. -/
def RetL (ys : List Int) (w : World) (x : Ending) (w' : World) : Prop := ∃ (A : Option Addr) (n c : Nat), x = .returned (.slice A n c) ∧ OwnL iv w' w.heap.size 3 A n c ys ∧ Below w.heap.size w w'
theorem impl_linesFree (o e m : Int) (A : Option Addr) (n c : Nat) (xs : List Cl) (i q : Int) (w : World) (hx : RdC w A n xs) (hn : n ≤ 1048576) (hs : ShapeOk o e m) :
    Calls Try.prog 51 #[shv o e m, .slice A n c, .int .i64 i, .int .i64 q] w (RetM (LinesFree o e xs i q) w) := by
  have HL := hx.len
  have HS := Lib.hid hs; clear hs
  have S0 := ShAt.new w o e m
  have B0 := below_box w (.cells #[.int .i64 o, .int .i64 e, .int .i64 m] 24)
  cases hi : lineB o e i with
  | false =>
    have HI := Lib.hid hi; clear hi
    go_enter Try.func51, Try.ntmps51
    go_wp2_with fail
    refine (impl_hasLine o e m i _ HS.out).mono ?_
    rintro r w1 ⟨rfl, b1⟩
    rw [HI.out]
    go_wp2
    go_ret
    exact RetM.no (fun h => by have := lineB_iff.2 h.1; rw [HI.out] at this; cases this) (bstep B0 b1)
  | true =>
    have HI := Lib.hid hi; clear hi
    cases hq : lineB o e q with
    | false =>
      have HQ := Lib.hid hq; clear hq
      go_enter Try.func51, Try.ntmps51
      go_wp2_with fail
      refine (impl_hasLine o e m i _ HS.out).mono ?_
      rintro r w1 ⟨rfl, b1⟩
      rw [HI.out]
      obtain ⟨s0, s1, s2, -⟩ := (S0.below b1).cells
      go_wp2_with fail
      refine (impl_hasLine o e m q _ HS.out).mono ?_
      rintro r w2 ⟨rfl, b2⟩
      rw [HQ.out]
      go_wp2
      go_ret
      exact RetM.no (fun h => by have := lineB_iff.2 h.2.1; rw [HQ.out] at this; cases this) (bstep (bstep B0 b1) b2)
    | true =>
      have HQ := Lib.hid hq; clear hq
      go_enter Try.func51, Try.ntmps51
      go_wp2_with fail
      refine (impl_hasLine o e m i _ HS.out).mono ?_
      rintro r w1 ⟨rfl, b1⟩
      rw [HI.out]
      obtain ⟨s0, s1, s2, -⟩ := (S0.below b1).cells
      go_wp2_with fail
      refine (impl_hasLine o e m q _ HS.out).mono ?_
      rintro r w2 ⟨rfl, b2⟩
      rw [HQ.out]
      have B2 := bstep (bstep B0 b1) b2
      clear s0 s1 s2
      go_wp2
      go_loopg [23] n (fun g i' wr => ∃ k : Nat, k ≤ n ∧ g = n - k ∧ i' = .int .i64 k ∧ Hid (∀ d ∈ xs.take k, d.i ≠ i ∧ d.o ≠ q) ∧ Below w.heap.size w wr)
      case atStart => exact ⟨0, Nat.zero_le _, rfl, rfl, (by show ∀ d ∈ xs.take 0, d.i ≠ i ∧ d.o ≠ q; simp), B2⟩
      case round =>
        obtain ⟨k, hk, rfl, rfl, HP, hbel⟩ := hrel
        by_cases hlt : k < n
        · obtain ⟨b, off, x, rfl, HX, g0, g1, g2⟩ := RdC.at (hx.below hbel (Nat.le_refl _)) hlt
          have BJ := bstep hbel (below_box wr (.cells #[.int .i64 x.i, .int .i64 x.o, .int .i64 x.v] 36))
          by_cases hxi : x.i = i
          · have hz : (x.i == i) = true := by simpa using hxi
            have HN : Hid (¬ LinesFree o e xs i q) := fun h => (h.2.2 x (List.mem_of_getElem? HX.out)).1 hxi
            clear hxi
            go_wp2
            go_ret
            exact RetM.no HN.out BJ
          · have hz : (x.i == i) = false := by simpa using hxi
            by_cases hxo : x.o = q
            · have hz2 : (x.o == q) = true := by simpa using hxo
              have HN : Hid (¬ LinesFree o e xs i q) := fun h => (h.2.2 x (List.mem_of_getElem? HX.out)).2 hxo
              clear hxo hxi
              go_wp2
              go_ret
              exact RetM.no HN.out BJ
            · have hz2 : (x.o == q) = false := by simpa using hxo
              have HC : Hid (x.i ≠ i ∧ x.o ≠ q) := ⟨hxi, hxo⟩
              clear hxo hxi
              go_wp2
              go_roundg (n - (k + 1))
              case rel => exact ⟨k + 1, by omega, rfl, by go_num, (by
                show ∀ d ∈ xs.take (k + 1), d.i ≠ i ∧ d.o ≠ q
                rw [take_snoc HX.out]
                intro d hd
                rcases List.mem_append.1 hd with h1 | h1
                · exact HP.out d h1
                · simp at h1; subst h1; exact HC.out), BJ⟩
              case measure => omega
        · go_wp2
          go_ret
          exact RetM.yes ⟨lineB_iff.1 HI.out, lineB_iff.1 HQ.out, by have := HP.out; rwa [List.take_of_length_le (by rw [HL.out]; omega)] at this⟩ hbel
/-- Which middle switches are used, a truth for each. -/
def tabOf (f : Int → Bool) (m : Nat) : List Bool := (List.range m).map fun (v : Nat) => f (v : Int)
theorem tab_at {f : Int → Bool} {m v : Nat} (h : v < m) : (tabOf f m)[v]? = some (f v) := by simp [tabOf, h]
theorem tab_set {f g : Int → Bool} {m v : Nat} (h : v < m) (hv : g v = true) (hr : ∀ u : Int, u ≠ v → g u = f u) : (tabOf f m).set v true = tabOf g m := by
  apply List.ext_getElem?
  intro j
  rw [List.getElem?_set]
  by_cases hj : v = j
  · subst hj
    rw [if_pos rfl, if_pos (by simp [tabOf, h]), tab_at h, hv]
  · rw [if_neg hj]
    by_cases hm : j < m
    · rw [tab_at hm, tab_at hm, hr j (by omega)]
    · rw [List.getElem?_eq_none (by simp [tabOf]; omega), List.getElem?_eq_none (by simp [tabOf]; omega)]
def RetT (ys : List Bool) (w : World) (x : Ending) (w' : World) : Prop := ∃ (A : Option Addr) (n c : Nat), x = .returned (.slice A n c) ∧ Hid (n = ys.length) ∧ OwnL bv w' w.heap.size 4 A n c ys ∧ Below w.heap.size w w'
theorem usedFrom_none (e : Int) (x v : Int) : usedFrom e [] x v = false := rfl
theorem usedFrom_snoc (e : Int) (cs : List Cl) (c : Cl) (x v : Int) : usedFrom e (cs ++ [c]) x v = (usedFrom e cs x v || (decide (c.i / e = x) && decide (c.v = v))) := by simp [usedFrom]
theorem impl_middlesFrom (o e : Int) (m : Nat) (A : Option Addr) (n c : Nat) (xs : List Cl) (x : Int) (w : World) (hx : RdC w A n xs) (hn : n ≤ 1048576) (hok : CallsOk o e m xs) :
    Calls Try.prog 53 #[shv o e m, .slice A n c, .int .i64 x] w (RetT (tabOf (usedFrom e xs x) m) w) := by
  have HL := hx.len
  obtain ⟨hs1, hs2, hs3, hs4, hs5, hs6⟩ := hok.1
  obtain ⟨hp1, hp2⟩ := prod_bd hok.1
  have HOK := Lib.hid hok; clear hok
  have HE0 : Hid (¬ e = 0) := by show ¬ e = 0; omega
  have S0 := ShAt.new w o e m
  have B0 := below_box w (.cells #[.int .i64 o, .int .i64 e, .int .i64 m] 24)
  have hmk := run_make_row' (P := Try.prog) 60 4 (.bool false) 1 Try.underlying60 info_bool rfl .i64 .i64 m (by omega) (by omega)
  go_enter Try.func53, Try.ntmps53
  go_wp2
  clear hmk
  obtain ⟨W, HW⟩ : ∃ W, Hid (W = w.alloc (.cells #[.int .i64 o, .int .i64 e, .int .i64 m] 24)) := ⟨_, rfl⟩
  have hWs : W.heap.size = w.heap.size + 1 := by rw [HW.out]; simp
  have HWS := Lib.hid hWs; clear hWs
  rw [← HW.out] at S0 B0
  have OM : OwnL bv (W.alloc (.cells (madeCells #[.bool false] m) 4)) W.heap.size 4 (some ⟨w.heap.size + 1, 0, none⟩) m m (List.replicate m false) := by
    have := OwnL.made (emb := bv) (e := 4) W false m (by unfold maxLen; omega) W.heap.size (Nat.le_refl _)
    rwa [HWS.out] at this ⊢
  have HT0 : Hid (List.replicate m false = tabOf (usedFrom e (xs.take 0) x) m) := by
    show _ = _
    simp [tabOf, usedFrom_none, List.map_const']
  go_loopg [15] n (fun g i' wr => ∃ k : Nat, k ≤ n ∧ g = n - k ∧ i' = .int .i64 k ∧ OwnL bv wr W.heap.size 4 (some ⟨w.heap.size + 1, 0, none⟩) m m (tabOf (usedFrom e (xs.take k) x) m) ∧ Below W.heap.size W wr)
  case atStart =>
    rw [← HW.out]
    exact ⟨0, Nat.zero_le _, rfl, rfl, by rw [← HT0.out]; exact OM, below_box W _⟩
  case round =>
    obtain ⟨k, hk, rfl, rfl, hown, hbel⟩ := hrel
    have BO := bstep B0 hbel
    have SO := S0.below hbel
    by_cases hlt : k < n
    · obtain ⟨b, off, y, rfl, HX, g0, g1, g2⟩ := RdC.at (hx.below BO (Nat.le_refl _)) hlt
      obtain ⟨⟨hyi, hyi2⟩, ⟨hyo, hyo2⟩, hyv, hyv2⟩ := HOK.out.okAt HX.out
      obtain ⟨s0, s1, s2, -⟩ := SO.cells
      have hzs := SO.lt
      have BJ := bstep hbel (below_box wr (.cells #[.int .i64 y.i, .int .i64 y.o, .int .i64 y.v] 36))
      have hown' := hown.alloc (.cells #[.int .i64 y.i, .int .i64 y.o, .int .i64 y.v] 36)
      by_cases hq : y.i / e = x
      · have hz : (y.i / e == x) = true := by simpa using hq
        have HQ := Lib.hid hq; clear hq
        obtain ⟨v, HVV⟩ : ∃ v : Nat, Hid (y.v = (v : Int)) := ⟨y.v.toNat, by show _ = _; omega⟩
        have hvm : v < m := by have := HVV.out; omega
        rw [HVV.out] at g2
        obtain ⟨g', z, hA, hB, hg', HZ, gc, gf⟩ := hown.at hvm
        injection hA with hA; injection hA with hA; subst hA
        have hne : w.heap.size + 1 < wr.heap.size := hg'
        have HT : Hid ((tabOf (usedFrom e (xs.take k) x) m).set v true = tabOf (usedFrom e (xs.take (k + 1)) x) m) := by
          show _ = _
          rw [take_snoc HX.out]
          refine tab_set hvm (by rw [usedFrom_snoc]; simp [HQ.out, HVV.out]) (fun u hu => by rw [usedFrom_snoc]; rw [HVV.out, show decide ((v : Int) = u) = false from decide_eq_false (fun h => hu h.symm)]; simp)
        go_wp2
        go_roundg (n - (k + 1))
        case rel => exact ⟨k + 1, by omega, rfl, by go_num, by rw [← HT.out]; first | exact (hown.alloc _).set v true | exact (hown.set v true).alloc _, by first | exact BJ.setCell (by show W.heap.size ≤ w.heap.size + 1; rw [HWS.out]; exact Nat.le_refl _) _ | exact bstep (hbel.setCell (by show W.heap.size ≤ w.heap.size + 1; rw [HWS.out]; exact Nat.le_refl _) _) (below_box _ _)⟩
        case measure => omega
      · have hz : (y.i / e == x) = false := by simpa using hq
        have HQ := Lib.hid hq; clear hq
        have HT : Hid (tabOf (usedFrom e (xs.take k) x) m = tabOf (usedFrom e (xs.take (k + 1)) x) m) := by
          show _ = _
          rw [take_snoc HX.out]
          simp only [tabOf, usedFrom_snoc]
          simp [HQ.out]
        go_wp2
        go_roundg (n - (k + 1))
        case rel => exact ⟨k + 1, by omega, rfl, by go_num, by rw [← HT.out]; exact hown', BJ⟩
        case measure => omega
    · go_wp2
      go_ret
      rw [List.take_of_length_le (by rw [HL.out]; omega)] at hown
      exact ⟨_, _, _, rfl, by show _ = _; simp [tabOf], hown.mono (by rw [HWS.out]; omega), BO⟩
theorem usedTo_none (e : Int) (x v : Int) : usedTo e [] x v = false := rfl
theorem usedTo_snoc (e : Int) (cs : List Cl) (c : Cl) (x v : Int) : usedTo e (cs ++ [c]) x v = (usedTo e cs x v || (decide (c.o / e = x) && decide (c.v = v))) := by simp [usedTo]
theorem impl_middlesTo (o e : Int) (m : Nat) (A : Option Addr) (n c : Nat) (xs : List Cl) (x : Int) (w : World) (hx : RdC w A n xs) (hn : n ≤ 1048576) (hok : CallsOk o e m xs) :
    Calls Try.prog 54 #[shv o e m, .slice A n c, .int .i64 x] w (RetT (tabOf (usedTo e xs x) m) w) := by
  have HL := hx.len
  obtain ⟨hs1, hs2, hs3, hs4, hs5, hs6⟩ := hok.1
  obtain ⟨hp1, hp2⟩ := prod_bd hok.1
  have HOK := Lib.hid hok; clear hok
  have HE0 : Hid (¬ e = 0) := by show ¬ e = 0; omega
  have S0 := ShAt.new w o e m
  have B0 := below_box w (.cells #[.int .i64 o, .int .i64 e, .int .i64 m] 24)
  have hmk := run_make_row' (P := Try.prog) 60 4 (.bool false) 1 Try.underlying60 info_bool rfl .i64 .i64 m (by omega) (by omega)
  go_enter Try.func54, Try.ntmps54
  go_wp2
  clear hmk
  obtain ⟨W, HW⟩ : ∃ W, Hid (W = w.alloc (.cells #[.int .i64 o, .int .i64 e, .int .i64 m] 24)) := ⟨_, rfl⟩
  have hWs : W.heap.size = w.heap.size + 1 := by rw [HW.out]; simp
  have HWS := Lib.hid hWs; clear hWs
  rw [← HW.out] at S0 B0
  have OM : OwnL bv (W.alloc (.cells (madeCells #[.bool false] m) 4)) W.heap.size 4 (some ⟨w.heap.size + 1, 0, none⟩) m m (List.replicate m false) := by
    have := OwnL.made (emb := bv) (e := 4) W false m (by unfold maxLen; omega) W.heap.size (Nat.le_refl _)
    rwa [HWS.out] at this ⊢
  have HT0 : Hid (List.replicate m false = tabOf (usedTo e (xs.take 0) x) m) := by
    show _ = _
    simp [tabOf, usedTo_none, List.map_const']
  go_loopg [15] n (fun g i' wr => ∃ k : Nat, k ≤ n ∧ g = n - k ∧ i' = .int .i64 k ∧ OwnL bv wr W.heap.size 4 (some ⟨w.heap.size + 1, 0, none⟩) m m (tabOf (usedTo e (xs.take k) x) m) ∧ Below W.heap.size W wr)
  case atStart =>
    rw [← HW.out]
    exact ⟨0, Nat.zero_le _, rfl, rfl, by rw [← HT0.out]; exact OM, below_box W _⟩
  case round =>
    obtain ⟨k, hk, rfl, rfl, hown, hbel⟩ := hrel
    have BO := bstep B0 hbel
    have SO := S0.below hbel
    by_cases hlt : k < n
    · obtain ⟨b, off, y, rfl, HX, g0, g1, g2⟩ := RdC.at (hx.below BO (Nat.le_refl _)) hlt
      obtain ⟨⟨hyi, hyi2⟩, ⟨hyo, hyo2⟩, hyv, hyv2⟩ := HOK.out.okAt HX.out
      obtain ⟨s0, s1, s2, -⟩ := SO.cells
      have hzs := SO.lt
      have BJ := bstep hbel (below_box wr (.cells #[.int .i64 y.i, .int .i64 y.o, .int .i64 y.v] 36))
      have hown' := hown.alloc (.cells #[.int .i64 y.i, .int .i64 y.o, .int .i64 y.v] 36)
      by_cases hq : y.o / e = x
      · have hz : (y.o / e == x) = true := by simpa using hq
        have HQ := Lib.hid hq; clear hq
        obtain ⟨v, HVV⟩ : ∃ v : Nat, Hid (y.v = (v : Int)) := ⟨y.v.toNat, by show _ = _; omega⟩
        have hvm : v < m := by have := HVV.out; omega
        rw [HVV.out] at g2
        obtain ⟨g', z, hA, hB, hg', HZ, gc, gf⟩ := hown.at hvm
        injection hA with hA; injection hA with hA; subst hA
        have hne : w.heap.size + 1 < wr.heap.size := hg'
        have HT : Hid ((tabOf (usedTo e (xs.take k) x) m).set v true = tabOf (usedTo e (xs.take (k + 1)) x) m) := by
          show _ = _
          rw [take_snoc HX.out]
          refine tab_set hvm (by rw [usedTo_snoc]; simp [HQ.out, HVV.out]) (fun u hu => by rw [usedTo_snoc]; rw [HVV.out, show decide ((v : Int) = u) = false from decide_eq_false (fun h => hu h.symm)]; simp)
        go_wp2
        go_roundg (n - (k + 1))
        case rel => exact ⟨k + 1, by omega, rfl, by go_num, by rw [← HT.out]; first | exact (hown.alloc _).set v true | exact (hown.set v true).alloc _, by first | exact BJ.setCell (by show W.heap.size ≤ w.heap.size + 1; rw [HWS.out]; exact Nat.le_refl _) _ | exact bstep (hbel.setCell (by show W.heap.size ≤ w.heap.size + 1; rw [HWS.out]; exact Nat.le_refl _) _) (below_box _ _)⟩
        case measure => omega
      · have hz : (y.o / e == x) = false := by simpa using hq
        have HQ := Lib.hid hq; clear hq
        have HT : Hid (tabOf (usedTo e (xs.take k) x) m = tabOf (usedTo e (xs.take (k + 1)) x) m) := by
          show _ = _
          rw [take_snoc HX.out]
          simp only [tabOf, usedTo_snoc]
          simp [HQ.out]
        go_wp2
        go_roundg (n - (k + 1))
        case rel => exact ⟨k + 1, by omega, rfl, by go_num, by rw [← HT.out]; exact hown', BJ⟩
        case measure => omega
    · go_wp2
      go_ret
      rw [List.take_of_length_le (by rw [HL.out]; omega)] at hown
      exact ⟨_, _, _, rfl, by show _ = _; simp [tabOf], hown.mono (by rw [HWS.out]; omega), BO⟩
end Go.Proofs.Ytcickfahpcmcdaa
