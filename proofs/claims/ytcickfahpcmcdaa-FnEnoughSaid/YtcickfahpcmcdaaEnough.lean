/- FnEnough returns true for every code. No condition. -/
import Derived.Test.YtcickfahpcmcdaaFrame
import Derived.Test.YtcickfahpcmcdaaPerm
import Derived.Test.YtcickfahpcmcdaaDshape2
import Derived.Test.Ytcickfahpcmcdaa4ro
namespace Go.Proofs.Ytcickfahpcmcdaa.enough
open Go.ChangeShapes Go.WideShapes Go.ChangeAt Go.RowKit
set_option linter.unusedSimpArgs false
set_option linter.unusedVariables false
/-- The first k of the numbers from N - 1 down. -/
def downL (N k : Nat) : List Int := (List.range k).map fun (j : Nat) => (N : Int) - 1 - (j : Int)
theorem down_len (N k : Nat) : (downL N k).length = k := by simp [downL]
theorem down_succ (N k : Nat) : downL N (k + 1) = downL N k ++ [(N : Int) - 1 - (k : Int)] := by simp [downL, List.range_succ]
theorem down_perm (N : Nat) : PermOk (downL N N) := by
  intro i x hx
  have hi := (List.getElem?_eq_some_iff.1 hx).1
  rw [down_len] at hi ⊢
  have he : x = (N : Int) - 1 - (i : Int) := by
    simp [downL, hi] at hx; omega
  subst he
  refine ⟨by omega, by omega, fun hm => ?_⟩
  obtain ⟨j, hj⟩ := List.getElem?_of_mem hm
  rw [List.getElem?_take] at hj
  split at hj
  · have hjN : (downL N N)[j]? = some ((N : Int) - 1 - (j : Int)) := by unfold downL; rw [List.getElem?_map, List.getElem?_range (by omega)]; rfl
    rw [hjN] at hj
    injection hj with hj
    omega
  · cases hj
theorem down_route {o e m : Int} {N : Nat} (hN : o * e = N) : RouteOk o e m (downL N N) ↔ enoughB o e m = true := by
  rw [enough_ok]
  exact ⟨fun h => h.1, fun h => ⟨h, down_perm N, by rw [down_len, hN]⟩⟩
theorem mul_bd {o e : Int} (h0 : 0 ≤ o) (h1 : o ≤ 5) (h2 : 0 ≤ e) (h3 : e ≤ 4) : ∃ N : Nat, o * e = N ∧ N ≤ 20 := by
  obtain ⟨a, rfl⟩ : ∃ a : Nat, o = a := ⟨o.toNat, by omega⟩
  obtain ⟨b, rfl⟩ : ∃ b : Nat, e = b := ⟨e.toNat, by omega⟩
  refine ⟨a * b, by simp, ?_⟩
  have h := Nat.mul_le_mul (show a ≤ 5 by omega) (show b ≤ 4 by omega)
  omega
set_option maxRecDepth 100000 in
set_option maxHeartbeats 2000000 in
theorem walk (A : Option Addr) (n c : Nat) (zs : List Int) (w : World) (f : RdL (Value.int .u8) w A n zs ∧ n ≤ c ∧ c ≤ maxLen ∧ ∀ z ∈ zs, (Lit.int .u8 z).wf = true) :
    Calls Try.prog 6 #[.slice A n c] w fun e w' => e = .returned (.bool true) ∧ Below w.heap.size w w' := by
  obtain ⟨hx, hc, hm, hz⟩ := f
  have HZ := Lib.hid (bytes_wf hz)
  clear hz
  by_cases hn : n ≤ 1048576
  · go_enter Try.func6, Try.ntmps6
    go_wp2_with fail
    refine (DrawEnough_any A n c zs w hx HZ.out hc hn).mono ?_
    rintro x w1 ⟨o, e, m, rfl, HB, b1⟩
    obtain ⟨ho0, ho1, he0, he1, hm0, hm1⟩ := HB.out
    obtain ⟨N, HN, hN20⟩ : ∃ N : Nat, Hid (o * e = N) ∧ N ≤ 20 := mul_bd ho0 ho1 he0 he1
    have S1 := ShAt.new w1 o e m
    have B1 := bbox b1 b1.size (.cells #[.int .i64 o, .int .i64 e, .int .i64 m] 24)
    go_wp2_with fail
    refine (impl_Enough o e m _).mono ?_
    rintro x w2 ⟨rfl, b2⟩
    have S2 := S1.below b2
    have B2 := bstep B1 b2
    obtain ⟨c0, c1, c2, f0, f1, f2⟩ := S2.cells
    go_wp2_with fail
    refine (spec_Enough o e m _).mono ?_
    rintro x w3 ⟨rfl, b3⟩
    have S3 := S2.below b3
    have B3 := bstep B2 b3
    clear c0 c1 c2 f0 f1 f2
    have S4 := S3.alloc (.cells #[] 3)
    obtain ⟨c0, c1, c2, f0, f1, f2⟩ := S4.cells
    have hlt3 := S3.lt
    have O3 : OwnL iv (w3.alloc (.cells #[] 3)) w3.heap.size 3 (some ⟨w3.heap.size, 0, none⟩) 0 0 [] := OwnL.lit w3 [] (by simp) (Nat.le_refl _)
    have B3' := bbox B3 B3.size (.cells #[] 3)
    have hb3 := B3.size
    have hoe := HN.out
    have hne : (enoughB o e m != enoughB o e m) = false := by simp
    obtain ⟨t, HT⟩ : ∃ t, Hid (t = enoughB o e m) := ⟨_, rfl⟩
    rw [← HT.out] at hne ⊢
    go_wp2
    clear hoe hne c0 c1 c2 f0 f1 f2
    go_loopg [5, 6] N (fun g s5 s6 wr => ∃ (k cc : Nat) (A' : Option Addr) (v : Int), k ≤ N ∧ g = N - k ∧ s6 = .int .i64 v ∧ s5 = .slice A' k cc ∧ Hid (v = (N : Int) - 1 - (k : Int)) ∧ OwnL iv wr w3.heap.size 3 A' k cc (downL N k) ∧ ShAt wr w1.heap.size o e m ∧ Below w.heap.size w wr ∧ w3.heap.size ≤ wr.heap.size)
    case atStart => exact ⟨0, 0, _, _, Nat.zero_le _, rfl, rfl, rfl, (by show _ = _; rw [← HN.out]; omega), O3, S4, B3', by simp⟩
    case round =>
      obtain ⟨k, cc, A', v, hk, rfl, rfl, rfl, hv, O, S, B, hsz⟩ := hrel
      by_cases hlt : k < N
      · have hv0 : 0 ≤ v := by have := hv.out; omega
        have hv1 : v ≤ 20 := by have := hv.out; omega
        go_wp2_with (at_builtin; refine wpList_appL (emb := iv) _ rfl (.tmp 31) (.tmp 33) _ rfl w3.heap.size 3 (.int .i64 0) 8 Try.underlying38 info_int rfl A' k cc _ rfl (O.alloc (.cells #[.int .i64 v] 3)) _ 1 1 [v] rfl (RdL.one wr _ v) (fun _ => rfl) (by unfold maxLen; omega) (by omega) (by simp; omega) ?_; intro A5 c5 w5 O5 G5 L5)
        have hgs := G5.size
        simp at hgs
        have S5 : ShAt w5 w1.heap.size o e m := ShAt.grown (S.alloc _) G5 (fun hh => by have h1 := (O.lt hh.symm).1; omega)
        have B5 : Below w.heap.size w w5 := bgrown (bbox B B.size (.cells #[.int .i64 v] 3)) G5 (by simp; have := B.size; omega) (fun g hg => by have h1 := (O.lt hg).1; omega)
        go_roundg (N - (k + 1))
        case rel => exact ⟨k + 1, c5, A5, v - 1, by omega, rfl, by go_num, rfl, (by have := hv.out; show _ = _; omega), by rw [down_succ, ← hv.out]; exact O5, S5, B5, by omega⟩
        case measure => omega
      · obtain rfl : N = k := by omega
        have hv0 : v < 0 := by have := hv.out; omega
        obtain ⟨c0, c1, c2, f0, f1, f2⟩ := S.cells
        go_wp2_with fail
        refine (impl_RouteAll o e m A' N cc (downL N N) _ O.rd (OwnL.cap O).1 (by omega)).mono ?_
        rintro x w6 ⟨A6, n6, c6, ys, t6, rfl, HP, O6, b6⟩
        have B6 := bstep B b6
        have S6 := S.below b6
        clear c0 c1 c2 f0 f1 f2
        cases t with
        | false =>
          have ht : t6 = false := by
            have h1 := HP.out
            rw [route_no (fun h => by have h2 := (down_route HN.out).1 h; rw [← HT.out] at h2; cases h2)] at h1
            injection h1 with h1 h2
            exact h2.symm
          subst ht
          go_wp2_with fail
          refine (alive_any _).mono ?_
          rintro x w7 ⟨rfl, b7⟩
          go_wp2
          go_ret
          exact ⟨rfl, bstep B6 b7⟩
        | true =>
          have HR : Hid (RouteOk o e m (downL N N)) := (down_route HN.out).2 HT.out.symm
          have hyt : t6 = true ∧ n6 = N := by
            have h1 := HP.out
            rw [route_yes HR.out, down_len] at h1
            injection h1 with h1 h2
            subst h1
            exact ⟨h2.symm, by rw [← (OwnC.len O6).out]; exact (route_inv HR.out N (by rw [down_len]; omega)).2.1⟩
          obtain ⟨rfl, rfl⟩ := hyt
          have HY : Hid (CallsOk o e m ys) := by
            have h1 := HP.out
            rw [route_yes HR.out, down_len] at h1
            injection h1 with h1 h2
            show CallsOk o e m ys
            rw [← h1]; exact (route_inv HR.out _ (by rw [down_len]; omega)).1
          obtain ⟨c0, c1, c2, f0, f1, f2⟩ := S6.cells
          go_wp2_with fail
          refine (impl_CallsValid o e m A6 _ c6 ys _ (OwnC.rd O6) (OwnM.cap O6).1 (by omega)).mono ?_
          rintro x w7 ⟨v7, rfl, hv7, b7⟩
          obtain rfl := hv7.out.2 HY.out
          clear hv7 c0 c1 c2 f0 f1 f2
          have B7 := bstep B6 b7
          go_wp2_with fail
          refine (alive_any _).mono ?_
          rintro x w8 ⟨rfl, b8⟩
          go_wp2
          go_ret
          exact ⟨rfl, bstep B7 b8⟩
  · go_enter Try.func6, Try.ntmps6
    go_wp2
    go_ret
    exact ⟨rfl, Below.refl _ _⟩
set_option maxRecDepth 100000 in
theorem lifted (os : Os) (started : os.Started) (H : Type) (enc : TypeId × Value → H) :
    ReturnsInHanded {} Try.checked os 6 .any (Rows.fnEnoughSpec.pre6 enc Try.prog Try.f6 Rows.fnEnoughRow.domain false) (Rows.fnEnoughSpec.post enc Try.prog Try.f6 false true false false) := by
  refine returnsInHanded_of_change (C := Try.checked) own started (by kernel_rfl) Try.func6
    (ChangeSpec.witness6 (enc := enc) (C := Try.checked) false ⟨#[], #[.slice none 0 0], []⟩ 8 (by kernel_rfl) (by kernel_rfl) (by kernel_rfl) (by kernel_rfl)) ?_
  intro W base args ds gs before hval0 hW hcnd _
  have hval : ∀ (j : Nat) t v, Try.f6.params[j]? = some t → args[j]? = some v → Value.okWide Try.prog W .any base t v := hval0
  have hW' := hW
  obtain ⟨p, q, hA0, hV, rfl, hfz, hnd⟩ := hW
  have hA : DataW.TrodAll enc Try.prog W 0 (fun _ => true) true Try.f6.params.toList args.toList ds p := hA0
  rw [Try.params6] at hA hval
  obtain ⟨v0, vs0, d0, ds0, p0, q0, hargs, rfl, rfl, k0, r0⟩ := trodAll_cons hA
  obtain ⟨rfl, rfl, rfl⟩ := trodAll_nil r0
  obtain rfl : args = #[v0] := by cases args; simp_all
  obtain ⟨rfl, rfl⟩ := trodVars_none hV
  have lt0 : ∀ x ∈ p0, x.block < W.heap.size := by obtain ⟨m, hm⟩ := k0; exact DataW.trod_lt m _ _ _ hm
  obtain ⟨a0, n0, c0, rfl⟩ := okWide_slice Try.underlying22 (hval 0 22 v0 rfl rfl)
  obtain ⟨z0, f0⟩ := open_bytes (W := W) k0
  clear hA0 hval0
  refine (walk a0 n0 c0 z0 W f0).mono fun e W' ⟨he, bel⟩ => ?_
  subst he
  exact ⟨_, rfl, _, _, _, [], _, [], hW', trodAll_mk1 (shut_bool Try.underlying4 _), (trodAll_cons_mk (Below.trod laidOut (by kernel_rfl) (of_decide_eq_true (by kernel_rfl)) k0 bel lt0) trodAll_mk0), rfl, bel.frame _, fun h => by cases h⟩
theorem closed : joinedFacts Try.pinned.checked.prog 6 Try.f6 Rows.fnEnoughSpec Rows.fnEnoughRow = true := by
  unfold joinedFacts
  repeat' (with_reducible refine Bool.and_eq_true_iff.2 ⟨?_, ?_⟩)
  · kernel_rfl
  · exact laidOut
  · kernel_rfl
  · kernel_rfl
  · kernel_rfl
  · kernel_rfl
  · kernel_rfl
  · kernel_rfl
  · kernel_rfl
  · kernel_rfl
  · kernel_rfl
  · kernel_rfl
  · kernel_rfl
  · kernel_rfl
  · kernel_rfl
  · kernel_rfl
  · kernel_rfl
  · kernel_rfl
  · kernel_rfl
  · kernel_rfl
  · kernel_rfl
  · kernel_rfl
  · kernel_rfl
  · kernel_rfl
  · kernel_rfl
  · exact heavy.1
  · exact heavy.2.1
  · exact heavy.2.2
  · kernel_rfl
  · kernel_rfl
  · kernel_rfl
  · kernel_rfl
theorem over : Rows.fnEnoughRow.holds Try.pinned (OpenSpec.ofChange Rows.fnEnoughSpec) :=
  OpenClaim.holds_of_wide 6 Try.f6 rfl rfl rfl rfl rfl rfl rfl ⟨rfl, rfl, rfl, rfl, rfl⟩ rfl rfl rfl rfl rfl (by kernel_rfl) Try.func6 closed
    (of_decide_eq_true (by kernel_rfl)) (by unfold Func.isWrapper; first | (rw [if_pos (by decide +kernel)]; kernel_rfl) | (rw [if_neg (by decide +kernel)]; exact ⟨rfl, rfl⟩))
    (fun os started H enc _ => lifted os started H enc)
theorem proved : Rows.FnEnoughSaid := over
#print axioms proved
end Go.Proofs.Ytcickfahpcmcdaa.enough
