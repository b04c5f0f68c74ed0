/- CallDrop of the program and of the reference: the calls without the one from an input. Condition: at most 1048576 calls. -/
import Derived.Test.Ytcickfahpcmcdaa4ws
namespace Go.Proofs.Ytcickfahpcmcdaa
open Go.RowKit
set_option linter.unusedSimpArgs false
set_option linter.unusedVariables false
/-- A list of calls, of the call's own, and a truth. -/
def RetCB (p : List Cl × Bool) (w : World) (x : Ending) (w' : World) : Prop :=
  ∃ (A : Option Addr) (n c : Nat) (ys : List Cl) (b : Bool), x = .returned (.tuple #[.slice A n c, .bool b]) ∧ Hid (p = (ys, b)) ∧ OwnC w' w.heap.size 36 A n c ys ∧ Below w.heap.size w w'
theorem RetCB.mk {p : List Cl × Bool} {w w' : World} {A : Option Addr} {n c : Nat} {b : Bool} (ys : List Cl) (hp : p = (ys, b)) (h : OwnC w' w.heap.size 36 A n c ys) (hb : Below w.heap.size w w') : RetCB p w (.returned (.tuple #[.slice A n c, .bool b])) w' :=
  ⟨A, n, c, ys, b, rfl, hp, h, hb⟩
theorem clv_one (y : Cl) : ∀ u ∈ clv y, u.oneCell' = true := by
  intro u hu
  simp [clv] at hu
  rcases hu with rfl | rfl | rfl <;> rfl
/-- A slice of one call that was just laid. -/
theorem rdc_one (w : World) (y : Cl) : RdC (w.alloc (.cells #[.int .i64 y.i, .int .i64 y.o, .int .i64 y.v] 36)) (some ⟨w.heap.size, 0, none⟩) 1 [y] := RdM.one clv_len w _ y
theorem rdc_one' (w : World) (o : Obj) (y : Cl) : RdC ((w.alloc o).alloc (.cells #[.int .i64 y.i, .int .i64 y.o, .int .i64 y.v] 36)) (some ⟨w.heap.size + 1, 0, none⟩) 1 [y] := by
  have h := rdc_one (w.alloc o) y
  rwa [show (w.alloc o).heap.size = w.heap.size + 1 by simp] at h
theorem run_make_capM {P : Program} (t e : TypeId) (z : Value) (sz bytes : Nat) (ht : P.underlying t = some (.slice e)) (hinfo : (P.info? e).map (fun i => (i.zero, i.size, i.bytes)) = some (some z, sz, bytes))
    (kl kc : IntKind) (n c : Nat) (hnc : n ≤ c) (hbytes : bytes * c ≤ 281474976710656) (h63 : c ≤ 9223372036854775807) (w : World) :
    (Instr.makeSlice t (.int kl (n : Int)) (.int kc (c : Int))).run P w = .ok (.slice (some ⟨w.heap.size, 0, none⟩) n c) (w.alloc (.cells (madeCells z.cells (c * sz)) e)) := by
  obtain ⟨i, hi, hz, hs, hb⟩ := info_parts hinfo
  have hb' : (i.bytes : Int) * (c : Int) ≤ 281474976710656 := by
    have h : ((i.bytes * c : Nat) : Int) ≤ 281474976710656 := by rw [hb]; omega
    rwa [Int.natCast_mul] at h
  have hr := run_make (P := P) w t e i z ht hi hz kl kc n c (by omega) (by omega) hb' (by omega)
  simp only [Int.toNat_natCast, hs] at hr
  exact hr

def keepP (i : Int) (c : Cl) : Bool := decide (c.i ≠ i)
def dropL (o e m : Int) (xs : List Cl) (i : Int) : List Cl × Bool := if CallsOk o e m xs then (xs.filter (keepP i), decide ((xs.filter (keepP i)).length < xs.length)) else ([], false)
theorem drop_len (o e m : Int) (xs : List Cl) (i : Int) : ∀ (h : xs.length ≤ 1048576), (dropL o e m xs i).1.length ≤ 1048576 := fun h => by
  unfold dropL
  split
  · exact Nat.le_trans (List.length_filter_le _ _) h
  · simp
theorem filter_take_yes {α : Type} {P : α → Bool} {xs : List α} {k : Nat} {x : α} (hx : xs[k]? = some x) (hp : P x = true) : (xs.take (k + 1)).filter P = (xs.take k).filter P ++ [x] := by
  rw [take_snoc hx, List.filter_append]; simp [hp]
theorem filter_take_no {α : Type} {P : α → Bool} {xs : List α} {k : Nat} {x : α} (hx : xs[k]? = some x) (hp : P x = false) : (xs.take (k + 1)).filter P = (xs.take k).filter P := by
  rw [take_snoc hx, List.filter_append]; simp [hp]
theorem filter_take_le {α : Type} (P : α → Bool) (xs : List α) (k : Nat) : ((xs.take k).filter P).length ≤ k := Nat.le_trans (List.length_filter_le _ _) (by simp; omega)
theorem impl_CallDrop (o e m : Int) (A : Option Addr) (n c : Nat) (xs : List Cl) (i : Int) (w : World) (hx : RdC w A n xs) (hc : n ≤ c) (hn : n ≤ 1048576) :
    Calls Try.prog 37 #[shv o e m, .slice A n c, .int .i64 i] w (RetCB (dropL o e m xs i) w) := by
  have HL := hx.len
  by_cases hok : CallsOk o e m xs
  · have HC := Lib.hid hok; clear hok
    have hmk : ∀ W : World, (Instr.makeSlice 25 (.int .i64 0) (.int .i64 (n : Int))).run Try.prog W = .ok (.slice (some ⟨W.heap.size, 0, none⟩) 0 n) (W.alloc (.cells (madeCells #[.int .i64 0, .int .i64 0, .int .i64 0] (n * 3)) 36)) := fun W => run_make_capM (P := Try.prog) 25 36 (.agg #[.int .i64 0, .int .i64 0, .int .i64 0]) 3 24 Try.underlying25 info_call .i64 .i64 0 n (by omega) (by omega) (by omega) W
    go_enter Try.func37, Try.ntmps37
    go_wp2_with fail
    refine (impl_CallsValid o e m A n c xs _ (hx.below (below_box w _) (Nat.le_refl _)) hc hn).mono ?_
    rintro r w1 ⟨v1, rfl, hv1, b1⟩
    obtain rfl := hv1.out.2 HC.out
    clear hv1
    have B1 := bstep (below_box w _) b1
    go_wp2
    clear hmk
    go_loopg [8, 20] n (fun g s i' wr => ∃ (k nn cc : Nat) (A' : Option Addr), k ≤ n ∧ g = n - k ∧ i' = .int .i64 k ∧ s = .slice A' nn cc ∧ OwnC wr w.heap.size 36 A' nn cc ((xs.take k).filter (keepP i)) ∧ Below w.heap.size w wr)
    case atStart => exact ⟨0, 0, n, _, Nat.zero_le _, rfl, rfl, rfl, World.ownsRow_made w1 _ n B1.size (by unfold maxLen; omega) (by rw [size_madeCells]), bbox B1 B1.size _⟩
    case round =>
      obtain ⟨k, nn, cc, A', hk, rfl, rfl, rfl, hown, hbel⟩ := hrel
      have hbs := hbel.size
      have HNN := OwnC.len hown
      have hnn : nn ≤ k := by rw [← HNN.out]; exact filter_take_le _ _ _
      by_cases hlt : k < n
      · obtain ⟨b, off, x, rfl, HX, g0, g1, g2⟩ := RdC.at (hx.below hbel (Nat.le_refl _)) hlt
        by_cases hi : x.i = i
        · have hz : (x.i != i) = false := by simp [hi]
          have HP : Hid (keepP i x = false) := by show _ = _; simp [keepP, hi]
          clear hi
          go_wp2
          go_roundg (n - (k + 1))
          case rel => exact ⟨k + 1, nn, cc, A', by omega, rfl, by go_num, rfl, by rw [filter_take_no HX.out HP.out]; exact (OwnM.alloc hown (.cells #[.int .i64 x.i, .int .i64 x.o, .int .i64 x.v] 36)), (bbox hbel hbs (.cells #[.int .i64 x.i, .int .i64 x.o, .int .i64 x.v] 36))⟩
          case measure => omega
        · have hz : (x.i != i) = true := by simp [hi]
          have HP : Hid (keepP i x = true) := by show _ = _; simp [keepP, hi]
          clear hi
          go_wp2_with (at_builtin; refine wpList_appM _ rfl (.tmp 28) (.tmp 30) _ rfl clv_len (by omega) w.heap.size 36 (.agg #[.int .i64 0, .int .i64 0, .int .i64 0]) 24 Try.underlying25 info_call rfl A' nn cc _ rfl ((OwnM.alloc hown (.cells #[.int .i64 x.i, .int .i64 x.o, .int .i64 x.v] 36)).alloc (.cells #[.int .i64 x.i, .int .i64 x.o, .int .i64 x.v] 36)) (some ⟨wr.heap.size + 1, 0, none⟩) 1 1 [x] rfl (rdc_one' wr (.cells #[.int .i64 x.i, .int .i64 x.o, .int .i64 x.v] 36) x) clv_one (by unfold maxLen; omega) (by omega) (by simp; omega) ?_; intro A3 c3 w3 O3 G3 L3)
          have B3 := bgrown (bbox (bbox hbel hbs (.cells #[.int .i64 x.i, .int .i64 x.o, .int .i64 x.v] 36)) (by simp; omega) (.cells #[.int .i64 x.i, .int .i64 x.o, .int .i64 x.v] 36)) G3 (by simp; omega) (fun g hg => (OwnM.lt hown hg).1)
          go_roundg (n - (k + 1))
          case rel => exact ⟨k + 1, nn + 1, c3, A3, by omega, rfl, by go_num, rfl, by rw [filter_take_yes HX.out HP.out]; exact O3, B3⟩
          case measure => omega
      · have HF : Hid ((xs.take k).filter (keepP i) = xs.filter (keepP i)) := by show _ = _; rw [List.take_of_length_le (by rw [HL.out]; omega)]
        go_wp2
        go_ret2
        exact RetCB.mk _ (by rw [dropL, if_pos HC.out, ← HF.out, HNN.out, HL.out]; try simp) hown hbel
  · have HC := Lib.hid hok; clear hok
    go_enter Try.func37, Try.ntmps37
    go_wp2_with fail
    refine (impl_CallsValid o e m A n c xs _ (hx.below (below_box w _) (Nat.le_refl _)) hc hn).mono ?_
    rintro r w1 ⟨v1, rfl, hv1, b1⟩
    have hvf : v1 = false := by
      cases v1
      · rfl
      · exact absurd (hv1.out.1 rfl) HC.out
    subst hvf
    clear hv1
    have B1 := bstep (below_box w _) b1
    go_wp2
    go_ret2
    exact RetCB.mk [] (by rw [dropL, if_neg HC.out]) OwnM.nil (bstep (below_box w _) b1)
theorem spec_CallDrop (o e m : Int) (A : Option Addr) (n c : Nat) (xs : List Cl) (i : Int) (w : World) (hx : RdC w A n xs) (hc : n ≤ c) (hn : n ≤ 1048576) :
    Calls Try.prog 38 #[shv o e m, .slice A n c, .int .i64 i] w (RetCB (dropL o e m xs i) w) := by
  have HL := hx.len
  by_cases hok : CallsOk o e m xs
  · have HC := Lib.hid hok; clear hok
    go_enter Try.func38, Try.ntmps38
    go_wp2_with fail
    refine (spec_CallsValid o e m A n c xs _ (hx.below (below_box w _) (Nat.le_refl _)) hc hn).mono ?_
    rintro r w1 ⟨v1, rfl, hv1, b1⟩
    obtain rfl := hv1.out.2 HC.out
    clear hv1
    have B1 := bstep (below_box w _) b1
    go_wp2
    skip
    go_loopg [8, 9] n (fun g s i' wr => ∃ (k nn cc : Nat) (A' : Option Addr), k ≤ n ∧ g = n - k ∧ i' = .int .i64 k ∧ s = .slice A' nn cc ∧ OwnC wr w.heap.size 36 A' nn cc ((xs.take k).filter (keepP i)) ∧ Below w.heap.size w wr)
    case atStart => exact ⟨0, 0, 0, _, Nat.zero_le _, rfl, rfl, rfl, OwnM.lit0 w1 B1.size, bbox B1 B1.size _⟩
    case round =>
      obtain ⟨k, nn, cc, A', hk, rfl, rfl, rfl, hown, hbel⟩ := hrel
      have hbs := hbel.size
      have HNN := OwnC.len hown
      have hnn : nn ≤ k := by rw [← HNN.out]; exact filter_take_le _ _ _
      by_cases hlt : k < n
      · obtain ⟨b, off, x, rfl, HX, g0, g1, g2⟩ := RdC.at (hx.below hbel (Nat.le_refl _)) hlt
        by_cases hi : x.i = i
        · have hz : (x.i != i) = false := by simp [hi]
          have HP : Hid (keepP i x = false) := by show _ = _; simp [keepP, hi]
          clear hi
          go_wp2
          go_roundg (n - (k + 1))
          case rel => exact ⟨k + 1, nn, cc, A', by omega, rfl, by go_num, rfl, by rw [filter_take_no HX.out HP.out]; exact hown, hbel⟩
          case measure => omega
        · have hz : (x.i != i) = true := by simp [hi]
          have HP : Hid (keepP i x = true) := by show _ = _; simp [keepP, hi]
          clear hi
          go_wp2_with (at_builtin; refine wpList_appM _ rfl (.tmp 29) (.tmp 34) _ rfl clv_len (by omega) w.heap.size 36 (.agg #[.int .i64 0, .int .i64 0, .int .i64 0]) 24 Try.underlying25 info_call rfl A' nn cc _ rfl (OwnM.alloc hown (.cells #[.int .i64 x.i, .int .i64 x.o, .int .i64 x.v] 36)) (some ⟨wr.heap.size, 0, none⟩) 1 1 [x] rfl (rdc_one wr x) clv_one (by unfold maxLen; omega) (by omega) (by simp; omega) ?_; intro A3 c3 w3 O3 G3 L3)
          have B3 := bgrown (bbox hbel hbs (.cells #[.int .i64 x.i, .int .i64 x.o, .int .i64 x.v] 36)) G3 (by simp; omega) (fun g hg => (OwnM.lt hown hg).1)
          go_roundg (n - (k + 1))
          case rel => exact ⟨k + 1, nn + 1, c3, A3, by omega, rfl, by go_num, rfl, by rw [filter_take_yes HX.out HP.out]; exact O3, B3⟩
          case measure => omega
      · have HF : Hid ((xs.take k).filter (keepP i) = xs.filter (keepP i)) := by show _ = _; rw [List.take_of_length_le (by rw [HL.out]; omega)]
        go_wp2
        go_ret2
        exact RetCB.mk _ (by rw [dropL, if_pos HC.out, ← HF.out, HNN.out, HL.out]; try simp) hown hbel
  · have HC := Lib.hid hok; clear hok
    go_enter Try.func38, Try.ntmps38
    go_wp2_with fail
    refine (spec_CallsValid o e m A n c xs _ (hx.below (below_box w _) (Nat.le_refl _)) hc hn).mono ?_
    rintro r w1 ⟨v1, rfl, hv1, b1⟩
    have hvf : v1 = false := by
      cases v1
      · rfl
      · exact absurd (hv1.out.1 rfl) HC.out
    subst hvf
    clear hv1
    have B1 := bstep (below_box w _) b1
    go_wp2
    go_ret2
    exact RetCB.mk [] (by rw [dropL, if_neg HC.out]) (OwnM.lit0 w1 B1.size) (bbox B1 B1.size _)
end Go.Proofs.Ytcickfahpcmcdaa
