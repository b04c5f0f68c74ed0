/- l3Set of the reference on a permutation of 2, 4 or 8 lines. No further condition. -/
import Derived.Test.Ytiahpaakkijejaa3k3
import Derived.StillTailTactics
namespace Go.Proofs.Ytiahpaakkijejaa
open Go.RowKit
set_option linter.unusedSimpArgs false
set_option linter.unusedVariables false
theorem ne_par {t : Bool} {x : Nat} {sd r : Int} (hs : sd = if t then 1 else 0) (hr : (x : Int) % 2 = r) : (sd != r) = (t != parB x) := by
  unfold parB
  rcases (by omega : x % 2 = 0 ∨ x % 2 = 1) with e | e
  · have hr0 : r = 0 := by omega
    subst hr0 hs
    rw [decide_eq_false (by omega)]
    cases t <;> rfl
  · have hr0 : r = 1 := by omega
    subst hr0 hs
    rw [decide_eq_true (by omega)]
    cases t <;> rfl
section
variable {P : Program} {ops : Array Oper} {w : World}
/-- wpStill, closed to the unifier. -/
structure St (P : Program) (ops : Array Oper) (w : World) (Q : Act → Prop) (l : List Oper) (a : Act) : Prop where
  out : wpStill P ops w Q l a
theorem St.skip {Q : Act → Prop} {a : Act} {o : Oper} {rest : List Oper} (hw : Region.wanted o (yielded ops a.tmps) = false) (h : St P ops w Q rest (a.put o.dst undef)) : St P ops w Q (o :: rest) a :=
  ⟨by unfold wpStill; rw [if_neg (by rw [hw]; simp)]; exact h.out⟩
theorem St.want {Q : Act → Prop} {a : Act} {o : Oper} {rest : List Oper} (hw : Region.wanted o (yielded ops a.tmps) = true)
    (h : ∀ K : Act → Prop, (∀ a, St P ops w Q rest a → K a) → o.still P a w K) : St P ops w Q (o :: rest) a :=
  ⟨by unfold wpStill; rw [if_pos hw]; exact h _ (fun _ h => h.out)⟩
theorem St.nil {Q : Act → Prop} {a : Act} (h : Q a) : St P ops w Q [] a := ⟨h⟩
end
theorem repl_snoc {α : Type} (k : Nat) (x : α) : List.replicate k x ++ [x] = List.replicate (k + 1) x := (List.replicate_succ').symm
theorem i64_swp {V Z R u : Nat} (hz : V / 2 = Z) (hr : V % 2 = R) (hu : swp V = u) : ((Z : Int) * 2 + 1 - (R : Int)) = (u : Int) ∧ R < 2 := by
  unfold swp at hu; omega
set_option maxRecDepth 100000 in
theorem spec_l3Set0 (A : Option Addr) (c : Nat) (q : Nat → Nat) (w : World) (h : IsP 2 q) (hx : RdL iv w A 2 (permN 2 q)) (hc : 2 ≤ c) :
    Calls Try.prog 66 #[.slice A 2 c] w (RetO bv 4 (loopL 0 q) w) := by
  have HP := Lib.hid h
  clear h
  obtain ⟨b, off, x, rfl, HX, gx⟩ := hx.at (k := 0) (by omega)
  have hx' : x = (q 0 : Int) := by have h := HX.out; rw [permN_at (by omega)] at h; injection h with h; exact h.symm
  clear HX
  obtain ⟨V, HV⟩ : ∃ V, Hid (q 0 = V) := ⟨_, rfl⟩
  rw [HV.out] at hx'
  subst hx'
  have hV : V < 2 := by rw [← HV.out]; exact HP.out.1 0 (by omega)
  have HT : ∀ t : Bool, decide ((V : Int) = 1) = t → Hid (loopL 0 q = [t]) := fun t ht => loop_two (by rw [HV.out]; exact ht)
  have gx2 : w.cell? ⟨b, off, none⟩ = some (iv V) := by simpa using gx
  clear gx
  go_enter Try.func66, Try.ntmps66
  rcases (by omega : V = 0 ∨ V = 1) with rfl | rfl
  · go_wp2_with fail
    go_ret
    exact ⟨_, _, _, rfl, by rw [(HT false rfl).out]; exact OwnL.lit w [false] (by simp [maxLen]) (Nat.le_refl _), below_box w _⟩
  · go_wp2_with fail
    go_ret
    exact ⟨_, _, _, rfl, by rw [(HT true rfl).out]; exact OwnL.lit w [true] (by simp [maxLen]) (Nat.le_refl _), below_box w _⟩
set_option maxRecDepth 100000 in
set_option maxHeartbeats 4000000 in
theorem spec_l3Set_step (d n H I M : Nat) (hn : n = 4 ∨ n = 8) (hnH : n = H * 2) (hpH : 2 ^ (d + 1) = H) (hI : manyD d = I) (hI6 : I ≤ 6) (A : Option Addr) (c : Nat) (q : Nat → Nat) (w : World) (h : IsP n q) (hx : RdL iv w A n (permN n q)) (hc : n ≤ c)
    (hrec : ∀ (A : Option Addr) (c : Nat) (q : Nat → Nat) (w : World), IsP H q → RdL iv w A H (permN H q) → H ≤ c → Calls Try.prog 66 #[.slice A H c] w (RetO bv 4 (loopL d q) w)) :
    Calls Try.prog 66 #[.slice A n c] w (RetO bv 4 (loopL (d + 1) q) w) := by
  have HP := Lib.hid h
  have HN := Lib.hid hn
  have HNH := Lib.hid hnH
  have HREC := Lib.hid hrec
  have HPR := Lib.hid (low_proper hn h)
  have HE := Lib.hid (loopL_succ d q)
  rw [hpH, ← hnH] at HE
  have hLI : ∀ q', (loopL d q').length = I := fun q' => by rw [loopL_len, hI]
  have HLI := Lib.hid hLI
  have h' : IsP (H * 2) q := by rw [← hnH]; exact h
  have HSD1 := Lib.hid (fun i (hi : i < n) => side_at hn h hi)
  obtain ⟨low, hlow⟩ : ∃ l, lowF n q = l := ⟨_, rfl⟩
  rw [hlow] at HE HPR HSD1
  have hpr : Proper (H * 2) q low := by rw [← hnH]; exact HPR.out
  have HUP := Lib.hid (up_isP h' hpr)
  have HLP := Lib.hid (lo_isP h' hpr)
  have SU := Lib.hid (up_all h' hpr)
  have SL := Lib.hid (lo_all h' hpr)
  have SB := Lib.hid (beg_all (H := H) (low := low))
  have SE := Lib.hid (end_all (low := low) h')
  have BN := Lib.hid (fun k (hk : k < H * 2) => beg_new hpr hk)
  have EN := Lib.hid (fun k (hk : k < H * 2) => end_new h' hpr hk)
  rw [← hnH] at SU SL SB SE BN EN
  have SK := Lib.hid (back_all h)
  obtain ⟨sig, HSG⟩ : ∃ s, Hid (sigL n q = s) := ⟨_, rfl⟩
  have HSD : Hid (∀ a, a < n → sig.getD a 0 = invP n q (swp (q a)) ∧ invP n q (swp (q a)) < n ∧ swp (q a) < n ∧ q a < n) := fun a ha => by
    have he : n % 2 = 0 := by have := HN.out; omega
    rw [← HSG.out]
    exact ⟨sigL_getD ha, sig_lt he HP.out ha, swp_lt2 he (HP.out.1 a ha), HP.out.1 a ha⟩
  rw [HSG.out] at HSD1
  have hH4 : H ≤ 4 := by omega
  have hH2 : 2 ≤ H := by omega
  have hn8 : n ≤ 8 := by omega
  have hn4 : 4 ≤ n := by omega
  have z2 : ((n : Int) == 2) = false := by simp; omega
  have hq2 : (n : Int) / 2 = (H : Int) := by omega
  clear h hn hnH hrec hLI h' hlow hpr hpH hI
  obtain ⟨b, off, y0, rfl, HY0, gb⟩ := hx.at (k := 0) (by omega)
  have hbw : b < w.heap.size := World.block_lt_of_cell? _ _ gb
  clear gb HY0
  have hmkN := run_make_row' (P := Try.prog) 25 3 (.int .i64 0) 8 Try.underlying25 info_int rfl .i64 .i64 n (by omega) (by omega)
  go_enter Try.func66, Try.ntmps66
  go_wp2
  clear hmkN
  have o1 : OwnL iv ((w.alloc (.cells (madeCells #[.int .i64 0] n) 3)).alloc (.cells #[] 3)) w.heap.size 3 (some ⟨w.heap.size, 0, none⟩) n n (List.replicate n 0) := (OwnL.made w 0 n (by unfold maxLen; omega) _ (Nat.le_refl _)).alloc _
  have o2 : OwnL iv ((w.alloc (.cells (madeCells #[.int .i64 0] n) 3)).alloc (.cells #[] 3)) w.heap.size 3 (some ⟨w.heap.size + 1, 0, none⟩) 0 0 [] := by
    have := OwnL.lit (emb := iv) (e := 3) (B := w.heap.size) (w.alloc (.cells (madeCells #[.int .i64 0] n) 3)) [] (by simp [maxLen]) (by simp)
    simpa using this
  have b2 : Below w.heap.size w ((w.alloc (.cells (madeCells #[.int .i64 0] n) 3)).alloc (.cells #[] 3)) := (below_box w _).alloc (by simp) _
  go_loopg [5, 6] n (fun g s5 s6 wr => ∃ (k : Nat) (A' : Option Addr) (cc : Nat), k ≤ n ∧ g = n - k ∧ s6 = .int .i64 k ∧ s5 = .slice A' k cc ∧ OwnL iv wr w.heap.size 3 (some ⟨w.heap.size, 0, none⟩) n n (scat (List.replicate n 0) (stBack q) k) ∧ OwnL iv wr w.heap.size 3 A' k cc (List.replicate k (-1)) ∧ (∀ g, blk A' = some g → w.heap.size < g) ∧ Below w.heap.size w wr)
  case atStart => exact ⟨0, _, _, Nat.zero_le _, rfl, rfl, rfl, o1, o2, (fun g hg => by rw [blk_some] at hg; injection hg with hg; omega), b2⟩
  case round =>
    clear o1 o2 b2
    obtain ⟨k, A', cc, hk, rfl, rfl, rfl, hown, hsd, hne, hbel⟩ := hrel
    by_cases hlt : k < n
    · obtain ⟨b', off', x, hA, HX, gx⟩ := (hx.below hbel (Nat.le_refl _)).at hlt
      injection hA with hA; injection hA with hA1 hA2; subst hA1 hA2
      have hx' : x = (q k : Int) := by have h := HX.out; rw [permN_at hlt] at h; injection h with h; exact h.symm
      obtain ⟨V, HV⟩ : ∃ V, Hid (q k = V) := ⟨_, rfl⟩
      rw [HV.out] at hx'
      subst hx'
      clear HX
      have hV : V < n := by rw [← HV.out]; exact HP.out.1 k hlt
      have HSS : Hid (scat (List.replicate n 0) (stBack q) (k + 1) = (scat (List.replicate n 0) (stBack q) k).set V (k : Int)) := scat_some (by unfold stBack; rw [HV.out])
      obtain ⟨g', y, hA, hB, hg', HY, gc, gf⟩ := hown.at hV
      injection hA with hA; injection hA with hA; subst hA
      clear HY
      obtain ⟨wo, hwo⟩ : ∃ wo : World, wo = wr := ⟨_, rfl⟩
      subst hwo
      have Q1 := hown.set V (k : Int)
      rw [← HSS.out] at Q1
      have Q2 := hsd.far ⟨w.heap.size, V, none⟩ (.int .i64 k) (fun e => by have := hne _ e; simp at this)
      have QB := hbel.setCell (p := ⟨w.heap.size, V, none⟩) (Nat.le_refl _) (.int .i64 k)
      obtain ⟨w2, hw2⟩ : ∃ w2, wo.setCell ⟨w.heap.size, V, none⟩ (.int .i64 k) = w2 := ⟨_, rfl⟩
      rw [hw2] at Q1 Q2 QB
      have hz2 := QB.size
      have hw2s : w2.heap.size = wo.heap.size := by rw [← hw2]; simp
      have RO : RdL iv (w2.alloc (.cells #[.int .i64 (-1)] 3)) (some ⟨wo.heap.size, 0, none⟩) 1 [(-1 : Int)] := by
        have := RdL.one (emb := iv) w2 3 (-1 : Int)
        rwa [hw2s] at this
      go_wp2_with (at_builtin; go_loud ((try rw [hw2]); refine wpList_appLN (emb := iv) _ rfl (.tmp 40) (.tmp 41) _ rfl w.heap.size 3 (.int .i64 0) 8 Try.underlying25 info_int rfl A' k cc (List.replicate k (-1)) rfl (Q2.alloc _) _ 1 1 [(-1 : Int)] rfl RO (fun _ => rfl) (k + 1) rfl _ (repl_snoc k (-1)) (by unfold maxLen; omega) (by omega) (by simp; omega) ?_); intro A5 c5 w5 O5 G5 L5)
      go_roundg (n - (k + 1))
      case rel => exact ⟨k + 1, A5, c5, by omega, rfl, by go_num, rfl, OwnL.grown (Q1.alloc _) G5 (fun g hg hb => by rw [blk_some] at hb; injection hb with hb; have := hne _ hg; omega), O5, (fun g hg => by
        rcases L5 with h5 | h5
        · exact hne g (by rw [← h5]; exact hg)
        · rw [h5] at hg; injection hg with hg; simp at hg; omega), bgrown (QB.alloc hz2 _) G5 (by simp; omega) (fun g hg => by have := hne _ hg; omega)⟩
      case measure => omega
    · obtain rfl : n = k := by omega
      rw [SK.out] at hown
      obtain ⟨gs, ys, hA, hgs0, hgs1, HYs, gcs, gfs⟩ := hsd.at (k := 0) (by omega)
      subst hA
      have hgs := hne gs rfl
      clear HYs gcs gfs hne hgs0 hgs1
      obtain ⟨wa, hwa⟩ : ∃ wa : World, wa = wr := ⟨_, rfl⟩
      subst hwa
      go_wp2
      go_loopg [7] n (fun g i wr => ∃ m : Nat, m ≤ n ∧ g = n - m ∧ i = .int .i64 m ∧ OwnL iv wr w.heap.size 3 (some ⟨gs, 0, none⟩) n cc (outerL sig n m) ∧ OwnL iv wr w.heap.size 3 (some ⟨w.heap.size, 0, none⟩) n n (permN n (invP n q)) ∧ Below w.heap.size w wr)
      case atStart => exact ⟨0, Nat.zero_le _, rfl, rfl, hsd, hown, hbel⟩
      case round =>
        clear hsd hown hbel
        obtain ⟨m, hm, rfl, rfl, hsd, hback, hbel⟩ := hrel
        by_cases hmlt : m < n
        · obtain ⟨wb, hwb⟩ : ∃ wb : World, wb = wr := ⟨_, rfl⟩
          subst hwb
          go_wp2
          go_loopg [8] n (fun g i wr => ∃ (a : Nat) (side : List Int), a < n ∧ i = .int .i64 a ∧ Hid (InL sig n (outerL sig n (m + 1)) side a g) ∧ OwnL iv wr w.heap.size 3 (some ⟨gs, 0, none⟩) n cc side ∧ OwnL iv wr w.heap.size 3 (some ⟨w.heap.size, 0, none⟩) n n (permN n (invP n q)) ∧ Below w.heap.size w wr)
          case atStart => exact ⟨m, _, hmlt, rfl, InL.start sig n m, hsd, hback, hbel⟩
          case round =>
            clear hsd hback hbel
            obtain ⟨a, side, ha, rfl, HIN, hsd, hback, hbel⟩ := hrel
            obtain ⟨g1, x, hA, p1, p2, HY, p3, p4⟩ := hsd.at ha
            injection hA with hA; injection hA with hA; subst hA
            by_cases hx0 : x < 0
            · have hxz : decide (x < 0) = true := decide_eq_true hx0
              have HGO := Lib.hid (HIN.out.go HY.out hx0)
              clear HIN HY
              obtain ⟨s1, s2, s3, s4⟩ := HSD.out a ha
              obtain ⟨v, HV⟩ : ∃ v, Hid (q a = v) := ⟨_, rfl⟩
              rw [HV.out] at s1 s2 s3 s4
              obtain ⟨u, HU⟩ : ∃ u, Hid (swp v = u) := ⟨_, rfl⟩
              rw [HU.out] at s1 s2 s3
              obtain ⟨o, HO⟩ : ∃ o, Hid (invP n q u = o) := ⟨_, rfl⟩
              rw [HO.out] at s1 s2
              obtain ⟨z, HZ⟩ : ∃ z, Hid (swp o = z) := ⟨_, rfl⟩
              have hz : z < n := by rw [← HZ.out]; exact swp_lt2 (by have := HN.out; omega) s2
              have h1 := HGO.out
              unfold roundL at h1
              rw [s1, HZ.out] at h1
              obtain ⟨g', hg', HIN⟩ := h1
              clear HGO s1
              obtain ⟨Zv, hZv⟩ : ∃ Z, v / 2 = Z := ⟨_, rfl⟩
              obtain ⟨Rv, hRv⟩ : ∃ R, v % 2 = R := ⟨_, rfl⟩
              obtain ⟨Zo, hZo⟩ : ∃ Z, o / 2 = Z := ⟨_, rfl⟩
              obtain ⟨Ro, hRo⟩ : ∃ R, o % 2 = R := ⟨_, rfl⟩
              obtain ⟨t1, t2⟩ := i64_swp hZv hRv HU.out
              obtain ⟨t3, t4⟩ := i64_swp hZo hRo HZ.out
              have hZvi : (v : Int) / 2 = (Zv : Int) := by omega
              have hRvi : (v : Int) % 2 = (Rv : Int) := by omega
              have hZoi : (o : Int) / 2 = (Zo : Int) := by omega
              have hRoi : (o : Int) % 2 = (Ro : Int) := by omega
              have hZv4 : Zv ≤ 4 := by omega
              have hZo4 : Zo ≤ 4 := by omega
              clear hZv hRv hZo hRo
              have v1 : IntKind.i64.wrap ((Zv : Int) * 2 + 1 - (Rv : Int)) = (u : Int) := by rw [t1]; exact IntWalk.i64_in _ (by omega)
              have v2 : IntKind.i64.wrap ((Zo : Int) * 2 + 1 - (Ro : Int)) = (z : Int) := by rw [t3]; exact IntWalk.i64_in _ (by omega)
              have v3 : IntKind.i64.wrap ((Zv : Int) * 2) = (Zv : Int) * 2 := IntWalk.i64_in _ (by omega)
              have v4 : IntKind.i64.wrap ((Zv : Int) * 2 + 1) = (Zv : Int) * 2 + 1 := IntWalk.i64_in _ (by omega)
              have v5 : IntKind.i64.wrap ((Zo : Int) * 2) = (Zo : Int) * 2 := IntWalk.i64_in _ (by omega)
              have v6 : IntKind.i64.wrap ((Zo : Int) * 2 + 1) = (Zo : Int) * 2 + 1 := IntWalk.i64_in _ (by omega)
              have v7 : IntKind.i64.wrap (Zv : Int) = (Zv : Int) := IntWalk.i64_in _ (by omega)
              clear t1 t3
              obtain ⟨b', off', x', hA, HX, gx⟩ := (hx.below hbel (Nat.le_refl _)).at ha
              injection hA with hA; injection hA with hA1 hA2; subst hA1 hA2
              have hx' : x' = (v : Int) := by have h := HX.out; rw [permN_at ha, HV.out] at h; injection h with h; exact h.symm
              subst hx'
              clear HX
              obtain ⟨g2, y2, hA, p5, p6, HY2, p7, p8⟩ := hback.at s3
              injection hA with hA; injection hA with hA; subst hA
              have hy2 : y2 = (o : Int) := by have h := HY2.out; rw [permN_at s3, HO.out] at h; injection h with h; exact h.symm
              subst hy2
              clear HY2
              have T1 := hsd.set a 0
              obtain ⟨g3, y3, hA, p9, p10, HY3, p11, p12⟩ := T1.at s2
              injection hA with hA; injection hA with hA; subst hA
              clear HY3
              have e1 : (wr.setCell ⟨gs, a, none⟩ (.int .i64 0)).cell? ⟨b, off + a, none⟩ = some (iv v) := by rw [World.cell?_setCell_other _ _ _ _ (fun e => by injection e with e; omega)]; exact gx
              have e2 : (wr.setCell ⟨gs, a, none⟩ (.int .i64 0)).cell? ⟨w.heap.size, u, none⟩ = some (iv o) := by rw [World.cell?_setCell_other _ _ _ _ (fun e => by injection e with e; omega)]; exact p7
              have B1 := hback.far ⟨gs, a, none⟩ (.int .i64 0) (ne_blk (a := w.heap.size) (b := gs) (by omega))
              have K1 := hbel.setCell (p := ⟨gs, a, none⟩) (by show w.heap.size ≤ gs; omega) (.int .i64 0)
              have hv0 : (0 : Int) ≤ (v : Int) := Int.natCast_nonneg _
              have hu0 : (0 : Int) ≤ (u : Int) := Int.natCast_nonneg _
              have hu1 : (u : Int) < (n : Int) := by omega
              have ha0 : (0 : Int) ≤ (a : Int) := Int.natCast_nonneg _
              have ha1 : (a : Int) < (n : Int) := by omega
              go_wp2
              clear p3 p7 gx
              obtain ⟨wq, hwq⟩ : ∃ wq, wr.setCell ⟨gs, a, none⟩ (.int .i64 0) = wq := ⟨_, rfl⟩
              rw [hwq] at T1 B1 K1 e1 e2 p11 p12
              clear hsd hback hbel p4 p8
              go_quiet (fail)
              go_wp2
              go_roundg g'
              case rel => exact ⟨z, _, hz, rfl, HIN, (T1.drewN _).set o 1, (B1.drewN _).far ⟨gs, o, none⟩ (.int .i64 1) (ne_blk (a := w.heap.size) (b := gs) (by omega)), (below_drewN K1 _).setCell (p := ⟨gs, o, none⟩) (by show w.heap.size ≤ gs; omega) (.int .i64 1)⟩
              case measure => omega
            · have hxz : decide (x < 0) = false := decide_eq_false hx0
              have HST := Lib.hid (HIN.out.stop HY.out hx0)
              clear HIN HY hx0
              go_wp2
              go_roundg (n - (m + 1))
              case rel => exact ⟨m + 1, by omega, rfl, by go_num, by rw [HST.out]; exact hsd, hback, hbel⟩
              case measure => omega
        · obtain rfl : n = m := by omega
          obtain ⟨side, hside⟩ : ∃ s, outerL sig n n = s := ⟨_, rfl⟩
          have HSL : Hid (∀ i, i < n → side[i]? = some (if low i = true then 1 else 0)) := by rw [← hside]; exact HSD1.out
          rw [hside] at hsd
          clear hside hback hmlt hm
          obtain ⟨W0, hW0⟩ : ∃ W0 : World, W0 = wr := ⟨_, rfl⟩
          subst hW0
          have hz0 := hbel.size
          have hgsz := (hsd.lt (g := gs) rfl).2
          have hmkB := run_make_row' (P := Try.prog) 31 4 (.bool false) 1 Try.underlying31 info_bool rfl .i64 .i64 H (by omega) (by omega)
          have hmkI := run_make_row' (P := Try.prog) 25 3 (.int .i64 0) 8 Try.underlying25 info_int rfl .i64 .i64 H (by omega) (by omega)
          go_wp2
          clear hmkB hmkI
          have o1 : OwnL bv (W0.alloc (.cells (madeCells #[.bool false] H) 4)) w.heap.size 4 (some ⟨W0.heap.size, 0, none⟩) H H (List.replicate H false) := OwnL.made W0 false H (by unfold maxLen; omega) _ hz0
          have o2 : OwnL bv ((W0.alloc (.cells (madeCells #[.bool false] H) 4)).alloc (.cells (madeCells #[.bool false] H) 4)) w.heap.size 4 (some ⟨W0.heap.size + 1, 0, none⟩) H H (List.replicate H false) := by
            have := OwnL.made (emb := bv) (e := 4) (W0.alloc (.cells (madeCells #[.bool false] H) 4)) false H (by unfold maxLen; omega) w.heap.size (by simp; omega)
            simpa using this
          have o3 : OwnL iv (((W0.alloc (.cells (madeCells #[.bool false] H) 4)).alloc (.cells (madeCells #[.bool false] H) 4)).alloc (.cells (madeCells #[.int .i64 0] H) 3)) w.heap.size 3 (some ⟨W0.heap.size + 2, 0, none⟩) H H (List.replicate H 0) := by
            have := OwnL.made (emb := iv) (e := 3) ((W0.alloc (.cells (madeCells #[.bool false] H) 4)).alloc (.cells (madeCells #[.bool false] H) 4)) 0 H (by unfold maxLen; omega) w.heap.size (by simp; omega)
            simpa using this
          have o4 : OwnL iv ((((W0.alloc (.cells (madeCells #[.bool false] H) 4)).alloc (.cells (madeCells #[.bool false] H) 4)).alloc (.cells (madeCells #[.int .i64 0] H) 3)).alloc (.cells (madeCells #[.int .i64 0] H) 3)) w.heap.size 3 (some ⟨W0.heap.size + 3, 0, none⟩) H H (List.replicate H 0) := by
            have := OwnL.made (emb := iv) (e := 3) (((W0.alloc (.cells (madeCells #[.bool false] H) 4)).alloc (.cells (madeCells #[.bool false] H) 4)).alloc (.cells (madeCells #[.int .i64 0] H) 3)) 0 H (by unfold maxLen; omega) w.heap.size (by simp; omega)
            simpa using this
          have b4 : Below w.heap.size w ((((W0.alloc (.cells (madeCells #[.bool false] H) 4)).alloc (.cells (madeCells #[.bool false] H) 4)).alloc (.cells (madeCells #[.int .i64 0] H) 3)).alloc (.cells (madeCells #[.int .i64 0] H) 3)) := (((hbel.alloc hz0 _).alloc (by simp; omega) _).alloc (by simp; omega) _).alloc (by simp; omega) _
          go_loopg [15] n (fun g i wr => ∃ k : Nat, k ≤ n ∧ g = n - k ∧ i = .int .i64 k ∧ OwnL bv wr w.heap.size 4 (some ⟨W0.heap.size, 0, none⟩) H H (scat (List.replicate H false) (stBeg low) k) ∧ OwnL bv wr w.heap.size 4 (some ⟨W0.heap.size + 1, 0, none⟩) H H (scat (List.replicate H false) (stEnd n low q) k) ∧ OwnL iv wr w.heap.size 3 (some ⟨W0.heap.size + 2, 0, none⟩) H H (scat (List.replicate H 0) (stUp low q) k) ∧ OwnL iv wr w.heap.size 3 (some ⟨W0.heap.size + 3, 0, none⟩) H H (scat (List.replicate H 0) (stLo low q) k) ∧ OwnL iv wr w.heap.size 3 (some ⟨gs, 0, none⟩) n cc side ∧ Below w.heap.size w wr)
          case atStart => exact ⟨0, Nat.zero_le _, rfl, rfl, ((o1.alloc _).alloc _).alloc _, (o2.alloc _).alloc _, o3.alloc _, o4, (((hsd.alloc _).alloc _).alloc _).alloc _, b4⟩
          case round =>
            clear o1 o2 o3 o4 b4 hsd hbel
            obtain ⟨k, hk, rfl, rfl, q1, q2, q3, q4, q5, hbel⟩ := hrel
            by_cases hlt : k < n
            · obtain ⟨b', off', x, hA, HX, gx⟩ := (hx.below hbel (Nat.le_refl _)).at hlt
              injection hA with hA; injection hA with hA1 hA2; subst hA1 hA2
              have hx' : x = (q k : Int) := by have h := HX.out; rw [permN_at hlt] at h; injection h with h; exact h.symm
              clear HX
              obtain ⟨V, HV⟩ : ∃ V, Hid (q k = V) := ⟨_, rfl⟩
              rw [HV.out] at hx'
              subst hx'
              have hV : V < n := by rw [← HV.out]; exact HP.out.1 k hlt
              obtain ⟨j, HJ⟩ : ∃ j, Hid (k / 2 = j) := ⟨_, rfl⟩
              obtain ⟨W, HW⟩ : ∃ W, Hid (V / 2 = W) := ⟨_, rfl⟩
              have hjk : (k : Int) / 2 = (j : Int) := by have := HJ.out; omega
              have hWV : (V : Int) / 2 = (W : Int) := by have := HW.out; omega
              have hjH : j < H := by have := HJ.out; have := HNH.out; omega
              have hWH : W < H := by have := HW.out; have := HNH.out; omega
              obtain ⟨g0, sd, hA, -, -, HY, gc, -⟩ := q5.at hlt
              injection hA with hA; injection hA with hA; subst hA
              obtain ⟨t, HLK⟩ : ∃ t, Hid (low k = t) := ⟨_, rfl⟩
              have HSK : Hid (sd = if t then 1 else 0) := by have h := HY.out; rw [HSL.out k hlt, HLK.out] at h; injection h with h; exact h.symm
              clear HY
              obtain ⟨r1, hr1⟩ : ∃ r, (k : Int) % 2 = r := ⟨_, rfl⟩
              obtain ⟨r2, hr2⟩ : ∃ r, (V : Int) % 2 = r := ⟨_, rfl⟩
              obtain ⟨b1, hb1⟩ : ∃ b, (sd != r1) = b := ⟨_, rfl⟩
              obtain ⟨b2, hb2⟩ : ∃ b, (sd != r2) = b := ⟨_, rfl⟩
              have HB1 : Hid (low (2 * j) = b1) := by
                have h1 := BN.out k hlt
                rw [HJ.out, HLK.out, ← ne_par HSK.out hr1, hb1] at h1
                exact h1
              have HB2 : Hid (low (invP n q (2 * W)) = b2) := by
                have h1 := EN.out k hlt
                rw [HV.out, HW.out, HLK.out, ← ne_par HSK.out hr2, hb2] at h1
                exact h1
              have F1 : Hid (scat (List.replicate H false) (stBeg low) (k + 1) = (scat (List.replicate H false) (stBeg low) k).set j b1) := scat_some (by unfold stBeg; rw [HJ.out, HB1.out])
              have F2 : Hid (scat (List.replicate H false) (stEnd n low q) (k + 1) = (scat (List.replicate H false) (stEnd n low q) k).set W b2) := scat_some (by unfold stEnd; rw [HV.out, HW.out, HB2.out])
              obtain ⟨g1, y1, hA, -, -, HY1, u1, s1⟩ := q1.at hjH
              injection hA with hA; injection hA with hA; subst hA
              have hy1 : (y1 || b1) = b1 := by have h1 := beg_old hjH HY1.out; rw [HB1.out] at h1; exact h1
              obtain ⟨g2, y2, hA, -, -, HY2, u2', s2⟩ := q2.at hWH
              injection hA with hA; injection hA with hA; subst hA
              have hy2 : (y2 || b2) = b2 := by have h1 := end_old hWH HY2.out; rw [HB2.out] at h1; exact h1
              obtain ⟨g3, y3, hA, -, -, -, u3', s3⟩ := q3.at hjH
              injection hA with hA; injection hA with hA; subst hA
              obtain ⟨g4, y4, hA, -, -, -, u4', s4⟩ := q4.at hjH
              injection hA with hA; injection hA with hA; subst hA
              clear HY1 HY2 HB1 HB2
              have hj0 : (0 : Int) ≤ (j : Int) := Int.natCast_nonneg _
              have hj1 : (j : Int) < (H : Int) := by omega
              have hW0' : (0 : Int) ≤ (W : Int) := Int.natCast_nonneg _
              have hW1 : (W : Int) < (H : Int) := by omega
              have hk0 : (0 : Int) ≤ (k : Int) := Int.natCast_nonneg _
              have hk1 : (k : Int) < (n : Int) := by omega
              have vW : IntKind.i64.wrap (W : Int) = (W : Int) := IntWalk.i64_in _ (by omega)
              obtain ⟨wo, hwo⟩ : ∃ wo : World, wo = wr := ⟨_, rfl⟩
              subst hwo
              cases t with
              | true =>
                have hs0 : (sd == 0) = false := by rw [HSK.out]; rfl
                cases y1 with
                | true =>
                  obtain rfl : b1 = true := by simpa using hy1.symm
                  clear hy1
                  cases y2 with
                  | true =>
                    obtain rfl : b2 = true := by simpa using hy2.symm
                    clear hy2
                    have e1 : (wo.setCell ⟨W0.heap.size + 3, j, none⟩ (.int .i64 W)).cell? ⟨W0.heap.size, j, none⟩ = some (bv true) := by rw [World.cell?_setCell_other _ _ _ _ (fun e => by injection e with e; omega)]; exact u1
                    have e2 : (wo.setCell ⟨W0.heap.size + 3, j, none⟩ (.int .i64 W)).cell? ⟨gs, k, none⟩ = some (iv sd) := by rw [World.cell?_setCell_other _ _ _ _ (fun e => by injection e with e; omega)]; exact gc
                    obtain ⟨wd, hwd⟩ : ∃ wd, World.drew ((wo.setCell ⟨W0.heap.size + 3, j, none⟩ (.int .i64 W)).setCell ⟨W0.heap.size, j, none⟩ (.bool true)) = wd := ⟨_, rfl⟩
                    have d1 : wd.cell? ⟨b, off + k, none⟩ = some (iv V) := by rw [← hwd]; show ((wo.setCell ⟨W0.heap.size + 3, j, none⟩ (.int .i64 W)).setCell ⟨W0.heap.size, j, none⟩ (.bool true)).cell? _ = _; rw [World.cell?_setCell_other _ _ _ _ (fun e => by injection e with e; omega), World.cell?_setCell_other _ _ _ _ (fun e => by injection e with e; omega)]; exact gx
                    have d2 : wd.cell? ⟨gs, k, none⟩ = some (iv sd) := by rw [← hwd]; show ((wo.setCell ⟨W0.heap.size + 3, j, none⟩ (.int .i64 W)).setCell ⟨W0.heap.size, j, none⟩ (.bool true)).cell? _ = _; rw [World.cell?_setCell_other _ _ _ _ (fun e => by injection e with e; omega), World.cell?_setCell_other _ _ _ _ (fun e => by injection e with e; omega)]; exact gc
                    have d3 : wd.cell? ⟨W0.heap.size + 1, W, none⟩ = some (bv true) := by rw [← hwd]; show ((wo.setCell ⟨W0.heap.size + 3, j, none⟩ (.int .i64 W)).setCell ⟨W0.heap.size, j, none⟩ (.bool true)).cell? _ = _; rw [World.cell?_setCell_other _ _ _ _ (fun e => by injection e with e; omega), World.cell?_setCell_other _ _ _ _ (fun e => by injection e with e; omega)]; exact u2'
                    have D1 := ((OwnL.set (OwnL.far q1 ⟨W0.heap.size + 3, j, none⟩ (.int .i64 W) (ne_blk (a := W0.heap.size) (b := W0.heap.size + 3) (by omega))) j true)).drew
                    have D2 := ((OwnL.far (OwnL.far q2 ⟨W0.heap.size + 3, j, none⟩ (.int .i64 W) (ne_blk (a := W0.heap.size + 1) (b := W0.heap.size + 3) (by omega))) ⟨W0.heap.size, j, none⟩ (.bool true) (ne_blk (a := W0.heap.size + 1) (b := W0.heap.size) (by omega)))).drew
                    have D3 := ((OwnL.far (OwnL.far q3 ⟨W0.heap.size + 3, j, none⟩ (.int .i64 W) (ne_blk (a := W0.heap.size + 2) (b := W0.heap.size + 3) (by omega))) ⟨W0.heap.size, j, none⟩ (.bool true) (ne_blk (a := W0.heap.size + 2) (b := W0.heap.size) (by omega)))).drew
                    have D4 := ((OwnL.far (OwnL.set q4 j (W : Int)) ⟨W0.heap.size, j, none⟩ (.bool true) (ne_blk (a := W0.heap.size + 3) (b := W0.heap.size) (by omega)))).drew
                    have D5 := ((OwnL.far (OwnL.far q5 ⟨W0.heap.size + 3, j, none⟩ (.int .i64 W) (ne_blk (a := gs) (b := W0.heap.size + 3) (by omega))) ⟨W0.heap.size, j, none⟩ (.bool true) (ne_blk (a := gs) (b := W0.heap.size) (by omega)))).drew
                    have DB := Below.drew (Below.setCell (Below.setCell hbel (p := ⟨W0.heap.size + 3, j, none⟩) (by show w.heap.size ≤ W0.heap.size + 3; omega) (.int .i64 W)) (p := ⟨W0.heap.size, j, none⟩) (by show w.heap.size ≤ W0.heap.size; omega) (.bool true))
                    rw [hwd] at D1 D2 D3 D4 D5 DB
                    obtain ⟨g5, y5, hA, -, -, -, d4, d5⟩ := D2.at hWH
                    injection hA with hA; injection hA with hA; subst hA
                    have F3 := Lib.hid (scat_none (d := List.replicate H 0) (st_up_no (q := q) HLK.out))
                    have F4 := Lib.hid (scat_some (d := List.replicate H 0) (st_lo (q := q) (W := W) HLK.out HJ.out (by rw [HV.out]; exact HW.out)))
                    have Q1 := (OwnL.far D1 ⟨W0.heap.size + 1, W, none⟩ (.bool true) (ne_blk (a := W0.heap.size) (b := W0.heap.size + 1) (by omega)))
                    have Q2 := (OwnL.set D2 W true)
                    have Q3 := (OwnL.far D3 ⟨W0.heap.size + 1, W, none⟩ (.bool true) (ne_blk (a := W0.heap.size + 2) (b := W0.heap.size + 1) (by omega)))
                    have Q4 := (OwnL.far D4 ⟨W0.heap.size + 1, W, none⟩ (.bool true) (ne_blk (a := W0.heap.size + 3) (b := W0.heap.size + 1) (by omega)))
                    have Q5 := (OwnL.far D5 ⟨W0.heap.size + 1, W, none⟩ (.bool true) (ne_blk (a := gs) (b := W0.heap.size + 1) (by omega)))
                    have QB := (Below.setCell DB (p := ⟨W0.heap.size + 1, W, none⟩) (by show w.heap.size ≤ W0.heap.size + 1; omega) (.bool true))
                    rw [← F1.out] at Q1
                    rw [← F2.out] at Q2
                    rw [← F3.out] at Q3
                    rw [← F4.out] at Q4
                    clear F1 F2 F3 F4 q1 q2 q3 q4 q5 hbel D1 D2 D3 D4 D5 DB
                    go_wp2_with fail
                    refine wp_region_still_tail 27 (by kernel_rfl) (by kernel_rfl) ?_
                    simp only [List.take_succ_cons, List.take_zero, List.drop_succ_cons, List.drop_zero]
                    change wpStill _ _ (World.drew ((wo.setCell ⟨W0.heap.size + 3, j, none⟩ (.int .i64 W)).setCell ⟨W0.heap.size, j, none⟩ (.bool true))) (fun a' => wpList _ _ _ _ a' (World.drew ((wo.setCell ⟨W0.heap.size + 3, j, none⟩ (.int .i64 W)).setCell ⟨W0.heap.size, j, none⟩ (.bool true)))) _ _
                    rw [hwd]
                    clear hwd
                    refine St.out ?_
                    repeat (first | (refine St.want rfl (fun K hK => ?_); go_simp; refine hK _ ?_; clear hK K) | (refine St.skip rfl ?_; simp only [Act.put, List.setIfInBounds_toArray, List.set_cons_zero, List.set_cons_succ]))
                    refine St.nil ?_
                    go_wp2
                    go_roundg (n - (k + 1))
                    case rel => exact ⟨k + 1, by omega, rfl, by go_num, Q1, Q2, Q3, Q4, Q5, QB⟩
                    case measure => omega
                  | false =>
                    clear hy2
                    have e1 : (wo.setCell ⟨W0.heap.size + 3, j, none⟩ (.int .i64 W)).cell? ⟨W0.heap.size, j, none⟩ = some (bv true) := by rw [World.cell?_setCell_other _ _ _ _ (fun e => by injection e with e; omega)]; exact u1
                    have e2 : (wo.setCell ⟨W0.heap.size + 3, j, none⟩ (.int .i64 W)).cell? ⟨gs, k, none⟩ = some (iv sd) := by rw [World.cell?_setCell_other _ _ _ _ (fun e => by injection e with e; omega)]; exact gc
                    obtain ⟨wd, hwd⟩ : ∃ wd, World.drew ((wo.setCell ⟨W0.heap.size + 3, j, none⟩ (.int .i64 W)).setCell ⟨W0.heap.size, j, none⟩ (.bool true)) = wd := ⟨_, rfl⟩
                    have d1 : wd.cell? ⟨b, off + k, none⟩ = some (iv V) := by rw [← hwd]; show ((wo.setCell ⟨W0.heap.size + 3, j, none⟩ (.int .i64 W)).setCell ⟨W0.heap.size, j, none⟩ (.bool true)).cell? _ = _; rw [World.cell?_setCell_other _ _ _ _ (fun e => by injection e with e; omega), World.cell?_setCell_other _ _ _ _ (fun e => by injection e with e; omega)]; exact gx
                    have d2 : wd.cell? ⟨gs, k, none⟩ = some (iv sd) := by rw [← hwd]; show ((wo.setCell ⟨W0.heap.size + 3, j, none⟩ (.int .i64 W)).setCell ⟨W0.heap.size, j, none⟩ (.bool true)).cell? _ = _; rw [World.cell?_setCell_other _ _ _ _ (fun e => by injection e with e; omega), World.cell?_setCell_other _ _ _ _ (fun e => by injection e with e; omega)]; exact gc
                    have d3 : wd.cell? ⟨W0.heap.size + 1, W, none⟩ = some (bv false) := by rw [← hwd]; show ((wo.setCell ⟨W0.heap.size + 3, j, none⟩ (.int .i64 W)).setCell ⟨W0.heap.size, j, none⟩ (.bool true)).cell? _ = _; rw [World.cell?_setCell_other _ _ _ _ (fun e => by injection e with e; omega), World.cell?_setCell_other _ _ _ _ (fun e => by injection e with e; omega)]; exact u2'
                    have D1 := ((OwnL.set (OwnL.far q1 ⟨W0.heap.size + 3, j, none⟩ (.int .i64 W) (ne_blk (a := W0.heap.size) (b := W0.heap.size + 3) (by omega))) j true)).drew
                    have D2 := ((OwnL.far (OwnL.far q2 ⟨W0.heap.size + 3, j, none⟩ (.int .i64 W) (ne_blk (a := W0.heap.size + 1) (b := W0.heap.size + 3) (by omega))) ⟨W0.heap.size, j, none⟩ (.bool true) (ne_blk (a := W0.heap.size + 1) (b := W0.heap.size) (by omega)))).drew
                    have D3 := ((OwnL.far (OwnL.far q3 ⟨W0.heap.size + 3, j, none⟩ (.int .i64 W) (ne_blk (a := W0.heap.size + 2) (b := W0.heap.size + 3) (by omega))) ⟨W0.heap.size, j, none⟩ (.bool true) (ne_blk (a := W0.heap.size + 2) (b := W0.heap.size) (by omega)))).drew
                    have D4 := ((OwnL.far (OwnL.set q4 j (W : Int)) ⟨W0.heap.size, j, none⟩ (.bool true) (ne_blk (a := W0.heap.size + 3) (b := W0.heap.size) (by omega)))).drew
                    have D5 := ((OwnL.far (OwnL.far q5 ⟨W0.heap.size + 3, j, none⟩ (.int .i64 W) (ne_blk (a := gs) (b := W0.heap.size + 3) (by omega))) ⟨W0.heap.size, j, none⟩ (.bool true) (ne_blk (a := gs) (b := W0.heap.size) (by omega)))).drew
                    have DB := Below.drew (Below.setCell (Below.setCell hbel (p := ⟨W0.heap.size + 3, j, none⟩) (by show w.heap.size ≤ W0.heap.size + 3; omega) (.int .i64 W)) (p := ⟨W0.heap.size, j, none⟩) (by show w.heap.size ≤ W0.heap.size; omega) (.bool true))
                    rw [hwd] at D1 D2 D3 D4 D5 DB
                    obtain ⟨g5, y5, hA, -, -, -, d4, d5⟩ := D2.at hWH
                    injection hA with hA; injection hA with hA; subst hA
                    have F3 := Lib.hid (scat_none (d := List.replicate H 0) (st_up_no (q := q) HLK.out))
                    have F4 := Lib.hid (scat_some (d := List.replicate H 0) (st_lo (q := q) (W := W) HLK.out HJ.out (by rw [HV.out]; exact HW.out)))
                    have Q1 := (OwnL.far D1 ⟨W0.heap.size + 1, W, none⟩ (.bool b2) (ne_blk (a := W0.heap.size) (b := W0.heap.size + 1) (by omega)))
                    have Q2 := (OwnL.set D2 W b2)
                    have Q3 := (OwnL.far D3 ⟨W0.heap.size + 1, W, none⟩ (.bool b2) (ne_blk (a := W0.heap.size + 2) (b := W0.heap.size + 1) (by omega)))
                    have Q4 := (OwnL.far D4 ⟨W0.heap.size + 1, W, none⟩ (.bool b2) (ne_blk (a := W0.heap.size + 3) (b := W0.heap.size + 1) (by omega)))
                    have Q5 := (OwnL.far D5 ⟨W0.heap.size + 1, W, none⟩ (.bool b2) (ne_blk (a := gs) (b := W0.heap.size + 1) (by omega)))
                    have QB := (Below.setCell DB (p := ⟨W0.heap.size + 1, W, none⟩) (by show w.heap.size ≤ W0.heap.size + 1; omega) (.bool b2))
                    rw [← F1.out] at Q1
                    rw [← F2.out] at Q2
                    rw [← F3.out] at Q3
                    rw [← F4.out] at Q4
                    clear F1 F2 F3 F4 q1 q2 q3 q4 q5 hbel D1 D2 D3 D4 D5 DB
                    go_wp2_with fail
                    refine wp_region_still_tail 27 (by kernel_rfl) (by kernel_rfl) ?_
                    simp only [List.take_succ_cons, List.take_zero, List.drop_succ_cons, List.drop_zero]
                    change wpStill _ _ (World.drew ((wo.setCell ⟨W0.heap.size + 3, j, none⟩ (.int .i64 W)).setCell ⟨W0.heap.size, j, none⟩ (.bool true))) (fun a' => wpList _ _ _ _ a' (World.drew ((wo.setCell ⟨W0.heap.size + 3, j, none⟩ (.int .i64 W)).setCell ⟨W0.heap.size, j, none⟩ (.bool true)))) _ _
                    rw [hwd]
                    clear hwd
                    refine St.out ?_
                    repeat (first | (refine St.want rfl (fun K hK => ?_); go_simp; refine hK _ ?_; clear hK K) | (refine St.skip rfl ?_; simp only [Act.put, List.setIfInBounds_toArray, List.set_cons_zero, List.set_cons_succ]))
                    refine St.nil ?_
                    go_wp2
                    go_roundg (n - (k + 1))
                    case rel => exact ⟨k + 1, by omega, rfl, by go_num, Q1, Q2, Q3, Q4, Q5, QB⟩
                    case measure => omega
                | false =>
                  clear hy1
                  cases y2 with
                  | true =>
                    obtain rfl : b2 = true := by simpa using hy2.symm
                    clear hy2
                    have e1 : (wo.setCell ⟨W0.heap.size + 3, j, none⟩ (.int .i64 W)).cell? ⟨W0.heap.size, j, none⟩ = some (bv false) := by rw [World.cell?_setCell_other _ _ _ _ (fun e => by injection e with e; omega)]; exact u1
                    have e2 : (wo.setCell ⟨W0.heap.size + 3, j, none⟩ (.int .i64 W)).cell? ⟨gs, k, none⟩ = some (iv sd) := by rw [World.cell?_setCell_other _ _ _ _ (fun e => by injection e with e; omega)]; exact gc
                    obtain ⟨wd, hwd⟩ : ∃ wd, World.drew ((wo.setCell ⟨W0.heap.size + 3, j, none⟩ (.int .i64 W)).setCell ⟨W0.heap.size, j, none⟩ (.bool b1)) = wd := ⟨_, rfl⟩
                    have d1 : wd.cell? ⟨b, off + k, none⟩ = some (iv V) := by rw [← hwd]; show ((wo.setCell ⟨W0.heap.size + 3, j, none⟩ (.int .i64 W)).setCell ⟨W0.heap.size, j, none⟩ (.bool b1)).cell? _ = _; rw [World.cell?_setCell_other _ _ _ _ (fun e => by injection e with e; omega), World.cell?_setCell_other _ _ _ _ (fun e => by injection e with e; omega)]; exact gx
                    have d2 : wd.cell? ⟨gs, k, none⟩ = some (iv sd) := by rw [← hwd]; show ((wo.setCell ⟨W0.heap.size + 3, j, none⟩ (.int .i64 W)).setCell ⟨W0.heap.size, j, none⟩ (.bool b1)).cell? _ = _; rw [World.cell?_setCell_other _ _ _ _ (fun e => by injection e with e; omega), World.cell?_setCell_other _ _ _ _ (fun e => by injection e with e; omega)]; exact gc
                    have d3 : wd.cell? ⟨W0.heap.size + 1, W, none⟩ = some (bv true) := by rw [← hwd]; show ((wo.setCell ⟨W0.heap.size + 3, j, none⟩ (.int .i64 W)).setCell ⟨W0.heap.size, j, none⟩ (.bool b1)).cell? _ = _; rw [World.cell?_setCell_other _ _ _ _ (fun e => by injection e with e; omega), World.cell?_setCell_other _ _ _ _ (fun e => by injection e with e; omega)]; exact u2'
                    have D1 := ((OwnL.set (OwnL.far q1 ⟨W0.heap.size + 3, j, none⟩ (.int .i64 W) (ne_blk (a := W0.heap.size) (b := W0.heap.size + 3) (by omega))) j b1)).drew
                    have D2 := ((OwnL.far (OwnL.far q2 ⟨W0.heap.size + 3, j, none⟩ (.int .i64 W) (ne_blk (a := W0.heap.size + 1) (b := W0.heap.size + 3) (by omega))) ⟨W0.heap.size, j, none⟩ (.bool b1) (ne_blk (a := W0.heap.size + 1) (b := W0.heap.size) (by omega)))).drew
                    have D3 := ((OwnL.far (OwnL.far q3 ⟨W0.heap.size + 3, j, none⟩ (.int .i64 W) (ne_blk (a := W0.heap.size + 2) (b := W0.heap.size + 3) (by omega))) ⟨W0.heap.size, j, none⟩ (.bool b1) (ne_blk (a := W0.heap.size + 2) (b := W0.heap.size) (by omega)))).drew
                    have D4 := ((OwnL.far (OwnL.set q4 j (W : Int)) ⟨W0.heap.size, j, none⟩ (.bool b1) (ne_blk (a := W0.heap.size + 3) (b := W0.heap.size) (by omega)))).drew
                    have D5 := ((OwnL.far (OwnL.far q5 ⟨W0.heap.size + 3, j, none⟩ (.int .i64 W) (ne_blk (a := gs) (b := W0.heap.size + 3) (by omega))) ⟨W0.heap.size, j, none⟩ (.bool b1) (ne_blk (a := gs) (b := W0.heap.size) (by omega)))).drew
                    have DB := Below.drew (Below.setCell (Below.setCell hbel (p := ⟨W0.heap.size + 3, j, none⟩) (by show w.heap.size ≤ W0.heap.size + 3; omega) (.int .i64 W)) (p := ⟨W0.heap.size, j, none⟩) (by show w.heap.size ≤ W0.heap.size; omega) (.bool b1))
                    rw [hwd] at D1 D2 D3 D4 D5 DB
                    obtain ⟨g5, y5, hA, -, -, -, d4, d5⟩ := D2.at hWH
                    injection hA with hA; injection hA with hA; subst hA
                    have F3 := Lib.hid (scat_none (d := List.replicate H 0) (st_up_no (q := q) HLK.out))
                    have F4 := Lib.hid (scat_some (d := List.replicate H 0) (st_lo (q := q) (W := W) HLK.out HJ.out (by rw [HV.out]; exact HW.out)))
                    have Q1 := (OwnL.far D1 ⟨W0.heap.size + 1, W, none⟩ (.bool true) (ne_blk (a := W0.heap.size) (b := W0.heap.size + 1) (by omega)))
                    have Q2 := (OwnL.set D2 W true)
                    have Q3 := (OwnL.far D3 ⟨W0.heap.size + 1, W, none⟩ (.bool true) (ne_blk (a := W0.heap.size + 2) (b := W0.heap.size + 1) (by omega)))
                    have Q4 := (OwnL.far D4 ⟨W0.heap.size + 1, W, none⟩ (.bool true) (ne_blk (a := W0.heap.size + 3) (b := W0.heap.size + 1) (by omega)))
                    have Q5 := (OwnL.far D5 ⟨W0.heap.size + 1, W, none⟩ (.bool true) (ne_blk (a := gs) (b := W0.heap.size + 1) (by omega)))
                    have QB := (Below.setCell DB (p := ⟨W0.heap.size + 1, W, none⟩) (by show w.heap.size ≤ W0.heap.size + 1; omega) (.bool true))
                    rw [← F1.out] at Q1
                    rw [← F2.out] at Q2
                    rw [← F3.out] at Q3
                    rw [← F4.out] at Q4
                    clear F1 F2 F3 F4 q1 q2 q3 q4 q5 hbel D1 D2 D3 D4 D5 DB
                    go_wp2_with fail
                    refine wp_region_still_tail 27 (by kernel_rfl) (by kernel_rfl) ?_
                    simp only [List.take_succ_cons, List.take_zero, List.drop_succ_cons, List.drop_zero]
                    change wpStill _ _ (World.drew ((wo.setCell ⟨W0.heap.size + 3, j, none⟩ (.int .i64 W)).setCell ⟨W0.heap.size, j, none⟩ (.bool b1))) (fun a' => wpList _ _ _ _ a' (World.drew ((wo.setCell ⟨W0.heap.size + 3, j, none⟩ (.int .i64 W)).setCell ⟨W0.heap.size, j, none⟩ (.bool b1)))) _ _
                    rw [hwd]
                    clear hwd
                    refine St.out ?_
                    repeat (first | (refine St.want rfl (fun K hK => ?_); go_simp; refine hK _ ?_; clear hK K) | (refine St.skip rfl ?_; simp only [Act.put, List.setIfInBounds_toArray, List.set_cons_zero, List.set_cons_succ]))
                    refine St.nil ?_
                    go_wp2
                    go_roundg (n - (k + 1))
                    case rel => exact ⟨k + 1, by omega, rfl, by go_num, Q1, Q2, Q3, Q4, Q5, QB⟩
                    case measure => omega
                  | false =>
                    clear hy2
                    have e1 : (wo.setCell ⟨W0.heap.size + 3, j, none⟩ (.int .i64 W)).cell? ⟨W0.heap.size, j, none⟩ = some (bv false) := by rw [World.cell?_setCell_other _ _ _ _ (fun e => by injection e with e; omega)]; exact u1
                    have e2 : (wo.setCell ⟨W0.heap.size + 3, j, none⟩ (.int .i64 W)).cell? ⟨gs, k, none⟩ = some (iv sd) := by rw [World.cell?_setCell_other _ _ _ _ (fun e => by injection e with e; omega)]; exact gc
                    obtain ⟨wd, hwd⟩ : ∃ wd, World.drew ((wo.setCell ⟨W0.heap.size + 3, j, none⟩ (.int .i64 W)).setCell ⟨W0.heap.size, j, none⟩ (.bool b1)) = wd := ⟨_, rfl⟩
                    have d1 : wd.cell? ⟨b, off + k, none⟩ = some (iv V) := by rw [← hwd]; show ((wo.setCell ⟨W0.heap.size + 3, j, none⟩ (.int .i64 W)).setCell ⟨W0.heap.size, j, none⟩ (.bool b1)).cell? _ = _; rw [World.cell?_setCell_other _ _ _ _ (fun e => by injection e with e; omega), World.cell?_setCell_other _ _ _ _ (fun e => by injection e with e; omega)]; exact gx
                    have d2 : wd.cell? ⟨gs, k, none⟩ = some (iv sd) := by rw [← hwd]; show ((wo.setCell ⟨W0.heap.size + 3, j, none⟩ (.int .i64 W)).setCell ⟨W0.heap.size, j, none⟩ (.bool b1)).cell? _ = _; rw [World.cell?_setCell_other _ _ _ _ (fun e => by injection e with e; omega), World.cell?_setCell_other _ _ _ _ (fun e => by injection e with e; omega)]; exact gc
                    have d3 : wd.cell? ⟨W0.heap.size + 1, W, none⟩ = some (bv false) := by rw [← hwd]; show ((wo.setCell ⟨W0.heap.size + 3, j, none⟩ (.int .i64 W)).setCell ⟨W0.heap.size, j, none⟩ (.bool b1)).cell? _ = _; rw [World.cell?_setCell_other _ _ _ _ (fun e => by injection e with e; omega), World.cell?_setCell_other _ _ _ _ (fun e => by injection e with e; omega)]; exact u2'
                    have D1 := ((OwnL.set (OwnL.far q1 ⟨W0.heap.size + 3, j, none⟩ (.int .i64 W) (ne_blk (a := W0.heap.size) (b := W0.heap.size + 3) (by omega))) j b1)).drew
                    have D2 := ((OwnL.far (OwnL.far q2 ⟨W0.heap.size + 3, j, none⟩ (.int .i64 W) (ne_blk (a := W0.heap.size + 1) (b := W0.heap.size + 3) (by omega))) ⟨W0.heap.size, j, none⟩ (.bool b1) (ne_blk (a := W0.heap.size + 1) (b := W0.heap.size) (by omega)))).drew
                    have D3 := ((OwnL.far (OwnL.far q3 ⟨W0.heap.size + 3, j, none⟩ (.int .i64 W) (ne_blk (a := W0.heap.size + 2) (b := W0.heap.size + 3) (by omega))) ⟨W0.heap.size, j, none⟩ (.bool b1) (ne_blk (a := W0.heap.size + 2) (b := W0.heap.size) (by omega)))).drew
                    have D4 := ((OwnL.far (OwnL.set q4 j (W : Int)) ⟨W0.heap.size, j, none⟩ (.bool b1) (ne_blk (a := W0.heap.size + 3) (b := W0.heap.size) (by omega)))).drew
                    have D5 := ((OwnL.far (OwnL.far q5 ⟨W0.heap.size + 3, j, none⟩ (.int .i64 W) (ne_blk (a := gs) (b := W0.heap.size + 3) (by omega))) ⟨W0.heap.size, j, none⟩ (.bool b1) (ne_blk (a := gs) (b := W0.heap.size) (by omega)))).drew
                    have DB := Below.drew (Below.setCell (Below.setCell hbel (p := ⟨W0.heap.size + 3, j, none⟩) (by show w.heap.size ≤ W0.heap.size + 3; omega) (.int .i64 W)) (p := ⟨W0.heap.size, j, none⟩) (by show w.heap.size ≤ W0.heap.size; omega) (.bool b1))
                    rw [hwd] at D1 D2 D3 D4 D5 DB
                    obtain ⟨g5, y5, hA, -, -, -, d4, d5⟩ := D2.at hWH
                    injection hA with hA; injection hA with hA; subst hA
                    have F3 := Lib.hid (scat_none (d := List.replicate H 0) (st_up_no (q := q) HLK.out))
                    have F4 := Lib.hid (scat_some (d := List.replicate H 0) (st_lo (q := q) (W := W) HLK.out HJ.out (by rw [HV.out]; exact HW.out)))
                    have Q1 := (OwnL.far D1 ⟨W0.heap.size + 1, W, none⟩ (.bool b2) (ne_blk (a := W0.heap.size) (b := W0.heap.size + 1) (by omega)))
                    have Q2 := (OwnL.set D2 W b2)
                    have Q3 := (OwnL.far D3 ⟨W0.heap.size + 1, W, none⟩ (.bool b2) (ne_blk (a := W0.heap.size + 2) (b := W0.heap.size + 1) (by omega)))
                    have Q4 := (OwnL.far D4 ⟨W0.heap.size + 1, W, none⟩ (.bool b2) (ne_blk (a := W0.heap.size + 3) (b := W0.heap.size + 1) (by omega)))
                    have Q5 := (OwnL.far D5 ⟨W0.heap.size + 1, W, none⟩ (.bool b2) (ne_blk (a := gs) (b := W0.heap.size + 1) (by omega)))
                    have QB := (Below.setCell DB (p := ⟨W0.heap.size + 1, W, none⟩) (by show w.heap.size ≤ W0.heap.size + 1; omega) (.bool b2))
                    rw [← F1.out] at Q1
                    rw [← F2.out] at Q2
                    rw [← F3.out] at Q3
                    rw [← F4.out] at Q4
                    clear F1 F2 F3 F4 q1 q2 q3 q4 q5 hbel D1 D2 D3 D4 D5 DB
                    go_wp2_with fail
                    refine wp_region_still_tail 27 (by kernel_rfl) (by kernel_rfl) ?_
                    simp only [List.take_succ_cons, List.take_zero, List.drop_succ_cons, List.drop_zero]
                    change wpStill _ _ (World.drew ((wo.setCell ⟨W0.heap.size + 3, j, none⟩ (.int .i64 W)).setCell ⟨W0.heap.size, j, none⟩ (.bool b1))) (fun a' => wpList _ _ _ _ a' (World.drew ((wo.setCell ⟨W0.heap.size + 3, j, none⟩ (.int .i64 W)).setCell ⟨W0.heap.size, j, none⟩ (.bool b1)))) _ _
                    rw [hwd]
                    clear hwd
                    refine St.out ?_
                    repeat (first | (refine St.want rfl (fun K hK => ?_); go_simp; refine hK _ ?_; clear hK K) | (refine St.skip rfl ?_; simp only [Act.put, List.setIfInBounds_toArray, List.set_cons_zero, List.set_cons_succ]))
                    refine St.nil ?_
                    go_wp2
                    go_roundg (n - (k + 1))
                    case rel => exact ⟨k + 1, by omega, rfl, by go_num, Q1, Q2, Q3, Q4, Q5, QB⟩
                    case measure => omega
              | false =>
                have hs0 : (sd == 0) = true := by rw [HSK.out]; rfl
                cases y1 with
                | true =>
                  obtain rfl : b1 = true := by simpa using hy1.symm
                  clear hy1
                  cases y2 with
                  | true =>
                    obtain rfl : b2 = true := by simpa using hy2.symm
                    clear hy2
                    have e1 : (wo.setCell ⟨W0.heap.size + 2, j, none⟩ (.int .i64 W)).cell? ⟨W0.heap.size, j, none⟩ = some (bv true) := by rw [World.cell?_setCell_other _ _ _ _ (fun e => by injection e with e; omega)]; exact u1
                    have e2 : (wo.setCell ⟨W0.heap.size + 2, j, none⟩ (.int .i64 W)).cell? ⟨gs, k, none⟩ = some (iv sd) := by rw [World.cell?_setCell_other _ _ _ _ (fun e => by injection e with e; omega)]; exact gc
                    obtain ⟨wd, hwd⟩ : ∃ wd, World.drew ((wo.setCell ⟨W0.heap.size + 2, j, none⟩ (.int .i64 W)).setCell ⟨W0.heap.size, j, none⟩ (.bool true)) = wd := ⟨_, rfl⟩
                    have d1 : wd.cell? ⟨b, off + k, none⟩ = some (iv V) := by rw [← hwd]; show ((wo.setCell ⟨W0.heap.size + 2, j, none⟩ (.int .i64 W)).setCell ⟨W0.heap.size, j, none⟩ (.bool true)).cell? _ = _; rw [World.cell?_setCell_other _ _ _ _ (fun e => by injection e with e; omega), World.cell?_setCell_other _ _ _ _ (fun e => by injection e with e; omega)]; exact gx
                    have d2 : wd.cell? ⟨gs, k, none⟩ = some (iv sd) := by rw [← hwd]; show ((wo.setCell ⟨W0.heap.size + 2, j, none⟩ (.int .i64 W)).setCell ⟨W0.heap.size, j, none⟩ (.bool true)).cell? _ = _; rw [World.cell?_setCell_other _ _ _ _ (fun e => by injection e with e; omega), World.cell?_setCell_other _ _ _ _ (fun e => by injection e with e; omega)]; exact gc
                    have d3 : wd.cell? ⟨W0.heap.size + 1, W, none⟩ = some (bv true) := by rw [← hwd]; show ((wo.setCell ⟨W0.heap.size + 2, j, none⟩ (.int .i64 W)).setCell ⟨W0.heap.size, j, none⟩ (.bool true)).cell? _ = _; rw [World.cell?_setCell_other _ _ _ _ (fun e => by injection e with e; omega), World.cell?_setCell_other _ _ _ _ (fun e => by injection e with e; omega)]; exact u2'
                    have D1 := ((OwnL.set (OwnL.far q1 ⟨W0.heap.size + 2, j, none⟩ (.int .i64 W) (ne_blk (a := W0.heap.size) (b := W0.heap.size + 2) (by omega))) j true)).drew
                    have D2 := ((OwnL.far (OwnL.far q2 ⟨W0.heap.size + 2, j, none⟩ (.int .i64 W) (ne_blk (a := W0.heap.size + 1) (b := W0.heap.size + 2) (by omega))) ⟨W0.heap.size, j, none⟩ (.bool true) (ne_blk (a := W0.heap.size + 1) (b := W0.heap.size) (by omega)))).drew
                    have D3 := ((OwnL.far (OwnL.set q3 j (W : Int)) ⟨W0.heap.size, j, none⟩ (.bool true) (ne_blk (a := W0.heap.size + 2) (b := W0.heap.size) (by omega)))).drew
                    have D4 := ((OwnL.far (OwnL.far q4 ⟨W0.heap.size + 2, j, none⟩ (.int .i64 W) (ne_blk (a := W0.heap.size + 3) (b := W0.heap.size + 2) (by omega))) ⟨W0.heap.size, j, none⟩ (.bool true) (ne_blk (a := W0.heap.size + 3) (b := W0.heap.size) (by omega)))).drew
                    have D5 := ((OwnL.far (OwnL.far q5 ⟨W0.heap.size + 2, j, none⟩ (.int .i64 W) (ne_blk (a := gs) (b := W0.heap.size + 2) (by omega))) ⟨W0.heap.size, j, none⟩ (.bool true) (ne_blk (a := gs) (b := W0.heap.size) (by omega)))).drew
                    have DB := Below.drew (Below.setCell (Below.setCell hbel (p := ⟨W0.heap.size + 2, j, none⟩) (by show w.heap.size ≤ W0.heap.size + 2; omega) (.int .i64 W)) (p := ⟨W0.heap.size, j, none⟩) (by show w.heap.size ≤ W0.heap.size; omega) (.bool true))
                    rw [hwd] at D1 D2 D3 D4 D5 DB
                    obtain ⟨g5, y5, hA, -, -, -, d4, d5⟩ := D2.at hWH
                    injection hA with hA; injection hA with hA; subst hA
                    have F4 := Lib.hid (scat_none (d := List.replicate H 0) (st_lo_no (q := q) HLK.out))
                    have F3 := Lib.hid (scat_some (d := List.replicate H 0) (st_up (q := q) (W := W) HLK.out HJ.out (by rw [HV.out]; exact HW.out)))
                    have Q1 := (OwnL.far D1 ⟨W0.heap.size + 1, W, none⟩ (.bool true) (ne_blk (a := W0.heap.size) (b := W0.heap.size + 1) (by omega)))
                    have Q2 := (OwnL.set D2 W true)
                    have Q3 := (OwnL.far D3 ⟨W0.heap.size + 1, W, none⟩ (.bool true) (ne_blk (a := W0.heap.size + 2) (b := W0.heap.size + 1) (by omega)))
                    have Q4 := (OwnL.far D4 ⟨W0.heap.size + 1, W, none⟩ (.bool true) (ne_blk (a := W0.heap.size + 3) (b := W0.heap.size + 1) (by omega)))
                    have Q5 := (OwnL.far D5 ⟨W0.heap.size + 1, W, none⟩ (.bool true) (ne_blk (a := gs) (b := W0.heap.size + 1) (by omega)))
                    have QB := (Below.setCell DB (p := ⟨W0.heap.size + 1, W, none⟩) (by show w.heap.size ≤ W0.heap.size + 1; omega) (.bool true))
                    rw [← F1.out] at Q1
                    rw [← F2.out] at Q2
                    rw [← F3.out] at Q3
                    rw [← F4.out] at Q4
                    clear F1 F2 F3 F4 q1 q2 q3 q4 q5 hbel D1 D2 D3 D4 D5 DB
                    go_wp2_with fail
                    refine wp_region_still_tail 27 (by kernel_rfl) (by kernel_rfl) ?_
                    simp only [List.take_succ_cons, List.take_zero, List.drop_succ_cons, List.drop_zero]
                    change wpStill _ _ (World.drew ((wo.setCell ⟨W0.heap.size + 2, j, none⟩ (.int .i64 W)).setCell ⟨W0.heap.size, j, none⟩ (.bool true))) (fun a' => wpList _ _ _ _ a' (World.drew ((wo.setCell ⟨W0.heap.size + 2, j, none⟩ (.int .i64 W)).setCell ⟨W0.heap.size, j, none⟩ (.bool true)))) _ _
                    rw [hwd]
                    clear hwd
                    refine St.out ?_
                    repeat (first | (refine St.want rfl (fun K hK => ?_); go_simp; refine hK _ ?_; clear hK K) | (refine St.skip rfl ?_; simp only [Act.put, List.setIfInBounds_toArray, List.set_cons_zero, List.set_cons_succ]))
                    refine St.nil ?_
                    go_wp2
                    go_roundg (n - (k + 1))
                    case rel => exact ⟨k + 1, by omega, rfl, by go_num, Q1, Q2, Q3, Q4, Q5, QB⟩
                    case measure => omega
                  | false =>
                    clear hy2
                    have e1 : (wo.setCell ⟨W0.heap.size + 2, j, none⟩ (.int .i64 W)).cell? ⟨W0.heap.size, j, none⟩ = some (bv true) := by rw [World.cell?_setCell_other _ _ _ _ (fun e => by injection e with e; omega)]; exact u1
                    have e2 : (wo.setCell ⟨W0.heap.size + 2, j, none⟩ (.int .i64 W)).cell? ⟨gs, k, none⟩ = some (iv sd) := by rw [World.cell?_setCell_other _ _ _ _ (fun e => by injection e with e; omega)]; exact gc
                    obtain ⟨wd, hwd⟩ : ∃ wd, World.drew ((wo.setCell ⟨W0.heap.size + 2, j, none⟩ (.int .i64 W)).setCell ⟨W0.heap.size, j, none⟩ (.bool true)) = wd := ⟨_, rfl⟩
                    have d1 : wd.cell? ⟨b, off + k, none⟩ = some (iv V) := by rw [← hwd]; show ((wo.setCell ⟨W0.heap.size + 2, j, none⟩ (.int .i64 W)).setCell ⟨W0.heap.size, j, none⟩ (.bool true)).cell? _ = _; rw [World.cell?_setCell_other _ _ _ _ (fun e => by injection e with e; omega), World.cell?_setCell_other _ _ _ _ (fun e => by injection e with e; omega)]; exact gx
                    have d2 : wd.cell? ⟨gs, k, none⟩ = some (iv sd) := by rw [← hwd]; show ((wo.setCell ⟨W0.heap.size + 2, j, none⟩ (.int .i64 W)).setCell ⟨W0.heap.size, j, none⟩ (.bool true)).cell? _ = _; rw [World.cell?_setCell_other _ _ _ _ (fun e => by injection e with e; omega), World.cell?_setCell_other _ _ _ _ (fun e => by injection e with e; omega)]; exact gc
                    have d3 : wd.cell? ⟨W0.heap.size + 1, W, none⟩ = some (bv false) := by rw [← hwd]; show ((wo.setCell ⟨W0.heap.size + 2, j, none⟩ (.int .i64 W)).setCell ⟨W0.heap.size, j, none⟩ (.bool true)).cell? _ = _; rw [World.cell?_setCell_other _ _ _ _ (fun e => by injection e with e; omega), World.cell?_setCell_other _ _ _ _ (fun e => by injection e with e; omega)]; exact u2'
                    have D1 := ((OwnL.set (OwnL.far q1 ⟨W0.heap.size + 2, j, none⟩ (.int .i64 W) (ne_blk (a := W0.heap.size) (b := W0.heap.size + 2) (by omega))) j true)).drew
                    have D2 := ((OwnL.far (OwnL.far q2 ⟨W0.heap.size + 2, j, none⟩ (.int .i64 W) (ne_blk (a := W0.heap.size + 1) (b := W0.heap.size + 2) (by omega))) ⟨W0.heap.size, j, none⟩ (.bool true) (ne_blk (a := W0.heap.size + 1) (b := W0.heap.size) (by omega)))).drew
                    have D3 := ((OwnL.far (OwnL.set q3 j (W : Int)) ⟨W0.heap.size, j, none⟩ (.bool true) (ne_blk (a := W0.heap.size + 2) (b := W0.heap.size) (by omega)))).drew
                    have D4 := ((OwnL.far (OwnL.far q4 ⟨W0.heap.size + 2, j, none⟩ (.int .i64 W) (ne_blk (a := W0.heap.size + 3) (b := W0.heap.size + 2) (by omega))) ⟨W0.heap.size, j, none⟩ (.bool true) (ne_blk (a := W0.heap.size + 3) (b := W0.heap.size) (by omega)))).drew
                    have D5 := ((OwnL.far (OwnL.far q5 ⟨W0.heap.size + 2, j, none⟩ (.int .i64 W) (ne_blk (a := gs) (b := W0.heap.size + 2) (by omega))) ⟨W0.heap.size, j, none⟩ (.bool true) (ne_blk (a := gs) (b := W0.heap.size) (by omega)))).drew
                    have DB := Below.drew (Below.setCell (Below.setCell hbel (p := ⟨W0.heap.size + 2, j, none⟩) (by show w.heap.size ≤ W0.heap.size + 2; omega) (.int .i64 W)) (p := ⟨W0.heap.size, j, none⟩) (by show w.heap.size ≤ W0.heap.size; omega) (.bool true))
                    rw [hwd] at D1 D2 D3 D4 D5 DB
                    obtain ⟨g5, y5, hA, -, -, -, d4, d5⟩ := D2.at hWH
                    injection hA with hA; injection hA with hA; subst hA
                    have F4 := Lib.hid (scat_none (d := List.replicate H 0) (st_lo_no (q := q) HLK.out))
                    have F3 := Lib.hid (scat_some (d := List.replicate H 0) (st_up (q := q) (W := W) HLK.out HJ.out (by rw [HV.out]; exact HW.out)))
                    have Q1 := (OwnL.far D1 ⟨W0.heap.size + 1, W, none⟩ (.bool b2) (ne_blk (a := W0.heap.size) (b := W0.heap.size + 1) (by omega)))
                    have Q2 := (OwnL.set D2 W b2)
                    have Q3 := (OwnL.far D3 ⟨W0.heap.size + 1, W, none⟩ (.bool b2) (ne_blk (a := W0.heap.size + 2) (b := W0.heap.size + 1) (by omega)))
                    have Q4 := (OwnL.far D4 ⟨W0.heap.size + 1, W, none⟩ (.bool b2) (ne_blk (a := W0.heap.size + 3) (b := W0.heap.size + 1) (by omega)))
                    have Q5 := (OwnL.far D5 ⟨W0.heap.size + 1, W, none⟩ (.bool b2) (ne_blk (a := gs) (b := W0.heap.size + 1) (by omega)))
                    have QB := (Below.setCell DB (p := ⟨W0.heap.size + 1, W, none⟩) (by show w.heap.size ≤ W0.heap.size + 1; omega) (.bool b2))
                    rw [← F1.out] at Q1
                    rw [← F2.out] at Q2
                    rw [← F3.out] at Q3
                    rw [← F4.out] at Q4
                    clear F1 F2 F3 F4 q1 q2 q3 q4 q5 hbel D1 D2 D3 D4 D5 DB
                    go_wp2_with fail
                    refine wp_region_still_tail 27 (by kernel_rfl) (by kernel_rfl) ?_
                    simp only [List.take_succ_cons, List.take_zero, List.drop_succ_cons, List.drop_zero]
                    change wpStill _ _ (World.drew ((wo.setCell ⟨W0.heap.size + 2, j, none⟩ (.int .i64 W)).setCell ⟨W0.heap.size, j, none⟩ (.bool true))) (fun a' => wpList _ _ _ _ a' (World.drew ((wo.setCell ⟨W0.heap.size + 2, j, none⟩ (.int .i64 W)).setCell ⟨W0.heap.size, j, none⟩ (.bool true)))) _ _
                    rw [hwd]
                    clear hwd
                    refine St.out ?_
                    repeat (first | (refine St.want rfl (fun K hK => ?_); go_simp; refine hK _ ?_; clear hK K) | (refine St.skip rfl ?_; simp only [Act.put, List.setIfInBounds_toArray, List.set_cons_zero, List.set_cons_succ]))
                    refine St.nil ?_
                    go_wp2
                    go_roundg (n - (k + 1))
                    case rel => exact ⟨k + 1, by omega, rfl, by go_num, Q1, Q2, Q3, Q4, Q5, QB⟩
                    case measure => omega
                | false =>
                  clear hy1
                  cases y2 with
                  | true =>
                    obtain rfl : b2 = true := by simpa using hy2.symm
                    clear hy2
                    have e1 : (wo.setCell ⟨W0.heap.size + 2, j, none⟩ (.int .i64 W)).cell? ⟨W0.heap.size, j, none⟩ = some (bv false) := by rw [World.cell?_setCell_other _ _ _ _ (fun e => by injection e with e; omega)]; exact u1
                    have e2 : (wo.setCell ⟨W0.heap.size + 2, j, none⟩ (.int .i64 W)).cell? ⟨gs, k, none⟩ = some (iv sd) := by rw [World.cell?_setCell_other _ _ _ _ (fun e => by injection e with e; omega)]; exact gc
                    obtain ⟨wd, hwd⟩ : ∃ wd, World.drew ((wo.setCell ⟨W0.heap.size + 2, j, none⟩ (.int .i64 W)).setCell ⟨W0.heap.size, j, none⟩ (.bool b1)) = wd := ⟨_, rfl⟩
                    have d1 : wd.cell? ⟨b, off + k, none⟩ = some (iv V) := by rw [← hwd]; show ((wo.setCell ⟨W0.heap.size + 2, j, none⟩ (.int .i64 W)).setCell ⟨W0.heap.size, j, none⟩ (.bool b1)).cell? _ = _; rw [World.cell?_setCell_other _ _ _ _ (fun e => by injection e with e; omega), World.cell?_setCell_other _ _ _ _ (fun e => by injection e with e; omega)]; exact gx
                    have d2 : wd.cell? ⟨gs, k, none⟩ = some (iv sd) := by rw [← hwd]; show ((wo.setCell ⟨W0.heap.size + 2, j, none⟩ (.int .i64 W)).setCell ⟨W0.heap.size, j, none⟩ (.bool b1)).cell? _ = _; rw [World.cell?_setCell_other _ _ _ _ (fun e => by injection e with e; omega), World.cell?_setCell_other _ _ _ _ (fun e => by injection e with e; omega)]; exact gc
                    have d3 : wd.cell? ⟨W0.heap.size + 1, W, none⟩ = some (bv true) := by rw [← hwd]; show ((wo.setCell ⟨W0.heap.size + 2, j, none⟩ (.int .i64 W)).setCell ⟨W0.heap.size, j, none⟩ (.bool b1)).cell? _ = _; rw [World.cell?_setCell_other _ _ _ _ (fun e => by injection e with e; omega), World.cell?_setCell_other _ _ _ _ (fun e => by injection e with e; omega)]; exact u2'
                    have D1 := ((OwnL.set (OwnL.far q1 ⟨W0.heap.size + 2, j, none⟩ (.int .i64 W) (ne_blk (a := W0.heap.size) (b := W0.heap.size + 2) (by omega))) j b1)).drew
                    have D2 := ((OwnL.far (OwnL.far q2 ⟨W0.heap.size + 2, j, none⟩ (.int .i64 W) (ne_blk (a := W0.heap.size + 1) (b := W0.heap.size + 2) (by omega))) ⟨W0.heap.size, j, none⟩ (.bool b1) (ne_blk (a := W0.heap.size + 1) (b := W0.heap.size) (by omega)))).drew
                    have D3 := ((OwnL.far (OwnL.set q3 j (W : Int)) ⟨W0.heap.size, j, none⟩ (.bool b1) (ne_blk (a := W0.heap.size + 2) (b := W0.heap.size) (by omega)))).drew
                    have D4 := ((OwnL.far (OwnL.far q4 ⟨W0.heap.size + 2, j, none⟩ (.int .i64 W) (ne_blk (a := W0.heap.size + 3) (b := W0.heap.size + 2) (by omega))) ⟨W0.heap.size, j, none⟩ (.bool b1) (ne_blk (a := W0.heap.size + 3) (b := W0.heap.size) (by omega)))).drew
                    have D5 := ((OwnL.far (OwnL.far q5 ⟨W0.heap.size + 2, j, none⟩ (.int .i64 W) (ne_blk (a := gs) (b := W0.heap.size + 2) (by omega))) ⟨W0.heap.size, j, none⟩ (.bool b1) (ne_blk (a := gs) (b := W0.heap.size) (by omega)))).drew
                    have DB := Below.drew (Below.setCell (Below.setCell hbel (p := ⟨W0.heap.size + 2, j, none⟩) (by show w.heap.size ≤ W0.heap.size + 2; omega) (.int .i64 W)) (p := ⟨W0.heap.size, j, none⟩) (by show w.heap.size ≤ W0.heap.size; omega) (.bool b1))
                    rw [hwd] at D1 D2 D3 D4 D5 DB
                    obtain ⟨g5, y5, hA, -, -, -, d4, d5⟩ := D2.at hWH
                    injection hA with hA; injection hA with hA; subst hA
                    have F4 := Lib.hid (scat_none (d := List.replicate H 0) (st_lo_no (q := q) HLK.out))
                    have F3 := Lib.hid (scat_some (d := List.replicate H 0) (st_up (q := q) (W := W) HLK.out HJ.out (by rw [HV.out]; exact HW.out)))
                    have Q1 := (OwnL.far D1 ⟨W0.heap.size + 1, W, none⟩ (.bool true) (ne_blk (a := W0.heap.size) (b := W0.heap.size + 1) (by omega)))
                    have Q2 := (OwnL.set D2 W true)
                    have Q3 := (OwnL.far D3 ⟨W0.heap.size + 1, W, none⟩ (.bool true) (ne_blk (a := W0.heap.size + 2) (b := W0.heap.size + 1) (by omega)))
                    have Q4 := (OwnL.far D4 ⟨W0.heap.size + 1, W, none⟩ (.bool true) (ne_blk (a := W0.heap.size + 3) (b := W0.heap.size + 1) (by omega)))
                    have Q5 := (OwnL.far D5 ⟨W0.heap.size + 1, W, none⟩ (.bool true) (ne_blk (a := gs) (b := W0.heap.size + 1) (by omega)))
                    have QB := (Below.setCell DB (p := ⟨W0.heap.size + 1, W, none⟩) (by show w.heap.size ≤ W0.heap.size + 1; omega) (.bool true))
                    rw [← F1.out] at Q1
                    rw [← F2.out] at Q2
                    rw [← F3.out] at Q3
                    rw [← F4.out] at Q4
                    clear F1 F2 F3 F4 q1 q2 q3 q4 q5 hbel D1 D2 D3 D4 D5 DB
                    go_wp2_with fail
                    refine wp_region_still_tail 27 (by kernel_rfl) (by kernel_rfl) ?_
                    simp only [List.take_succ_cons, List.take_zero, List.drop_succ_cons, List.drop_zero]
                    change wpStill _ _ (World.drew ((wo.setCell ⟨W0.heap.size + 2, j, none⟩ (.int .i64 W)).setCell ⟨W0.heap.size, j, none⟩ (.bool b1))) (fun a' => wpList _ _ _ _ a' (World.drew ((wo.setCell ⟨W0.heap.size + 2, j, none⟩ (.int .i64 W)).setCell ⟨W0.heap.size, j, none⟩ (.bool b1)))) _ _
                    rw [hwd]
                    clear hwd
                    refine St.out ?_
                    repeat (first | (refine St.want rfl (fun K hK => ?_); go_simp; refine hK _ ?_; clear hK K) | (refine St.skip rfl ?_; simp only [Act.put, List.setIfInBounds_toArray, List.set_cons_zero, List.set_cons_succ]))
                    refine St.nil ?_
                    go_wp2
                    go_roundg (n - (k + 1))
                    case rel => exact ⟨k + 1, by omega, rfl, by go_num, Q1, Q2, Q3, Q4, Q5, QB⟩
                    case measure => omega
                  | false =>
                    clear hy2
                    have e1 : (wo.setCell ⟨W0.heap.size + 2, j, none⟩ (.int .i64 W)).cell? ⟨W0.heap.size, j, none⟩ = some (bv false) := by rw [World.cell?_setCell_other _ _ _ _ (fun e => by injection e with e; omega)]; exact u1
                    have e2 : (wo.setCell ⟨W0.heap.size + 2, j, none⟩ (.int .i64 W)).cell? ⟨gs, k, none⟩ = some (iv sd) := by rw [World.cell?_setCell_other _ _ _ _ (fun e => by injection e with e; omega)]; exact gc
                    obtain ⟨wd, hwd⟩ : ∃ wd, World.drew ((wo.setCell ⟨W0.heap.size + 2, j, none⟩ (.int .i64 W)).setCell ⟨W0.heap.size, j, none⟩ (.bool b1)) = wd := ⟨_, rfl⟩
                    have d1 : wd.cell? ⟨b, off + k, none⟩ = some (iv V) := by rw [← hwd]; show ((wo.setCell ⟨W0.heap.size + 2, j, none⟩ (.int .i64 W)).setCell ⟨W0.heap.size, j, none⟩ (.bool b1)).cell? _ = _; rw [World.cell?_setCell_other _ _ _ _ (fun e => by injection e with e; omega), World.cell?_setCell_other _ _ _ _ (fun e => by injection e with e; omega)]; exact gx
                    have d2 : wd.cell? ⟨gs, k, none⟩ = some (iv sd) := by rw [← hwd]; show ((wo.setCell ⟨W0.heap.size + 2, j, none⟩ (.int .i64 W)).setCell ⟨W0.heap.size, j, none⟩ (.bool b1)).cell? _ = _; rw [World.cell?_setCell_other _ _ _ _ (fun e => by injection e with e; omega), World.cell?_setCell_other _ _ _ _ (fun e => by injection e with e; omega)]; exact gc
                    have d3 : wd.cell? ⟨W0.heap.size + 1, W, none⟩ = some (bv false) := by rw [← hwd]; show ((wo.setCell ⟨W0.heap.size + 2, j, none⟩ (.int .i64 W)).setCell ⟨W0.heap.size, j, none⟩ (.bool b1)).cell? _ = _; rw [World.cell?_setCell_other _ _ _ _ (fun e => by injection e with e; omega), World.cell?_setCell_other _ _ _ _ (fun e => by injection e with e; omega)]; exact u2'
                    have D1 := ((OwnL.set (OwnL.far q1 ⟨W0.heap.size + 2, j, none⟩ (.int .i64 W) (ne_blk (a := W0.heap.size) (b := W0.heap.size + 2) (by omega))) j b1)).drew
                    have D2 := ((OwnL.far (OwnL.far q2 ⟨W0.heap.size + 2, j, none⟩ (.int .i64 W) (ne_blk (a := W0.heap.size + 1) (b := W0.heap.size + 2) (by omega))) ⟨W0.heap.size, j, none⟩ (.bool b1) (ne_blk (a := W0.heap.size + 1) (b := W0.heap.size) (by omega)))).drew
                    have D3 := ((OwnL.far (OwnL.set q3 j (W : Int)) ⟨W0.heap.size, j, none⟩ (.bool b1) (ne_blk (a := W0.heap.size + 2) (b := W0.heap.size) (by omega)))).drew
                    have D4 := ((OwnL.far (OwnL.far q4 ⟨W0.heap.size + 2, j, none⟩ (.int .i64 W) (ne_blk (a := W0.heap.size + 3) (b := W0.heap.size + 2) (by omega))) ⟨W0.heap.size, j, none⟩ (.bool b1) (ne_blk (a := W0.heap.size + 3) (b := W0.heap.size) (by omega)))).drew
                    have D5 := ((OwnL.far (OwnL.far q5 ⟨W0.heap.size + 2, j, none⟩ (.int .i64 W) (ne_blk (a := gs) (b := W0.heap.size + 2) (by omega))) ⟨W0.heap.size, j, none⟩ (.bool b1) (ne_blk (a := gs) (b := W0.heap.size) (by omega)))).drew
                    have DB := Below.drew (Below.setCell (Below.setCell hbel (p := ⟨W0.heap.size + 2, j, none⟩) (by show w.heap.size ≤ W0.heap.size + 2; omega) (.int .i64 W)) (p := ⟨W0.heap.size, j, none⟩) (by show w.heap.size ≤ W0.heap.size; omega) (.bool b1))
                    rw [hwd] at D1 D2 D3 D4 D5 DB
                    obtain ⟨g5, y5, hA, -, -, -, d4, d5⟩ := D2.at hWH
                    injection hA with hA; injection hA with hA; subst hA
                    have F4 := Lib.hid (scat_none (d := List.replicate H 0) (st_lo_no (q := q) HLK.out))
                    have F3 := Lib.hid (scat_some (d := List.replicate H 0) (st_up (q := q) (W := W) HLK.out HJ.out (by rw [HV.out]; exact HW.out)))
                    have Q1 := (OwnL.far D1 ⟨W0.heap.size + 1, W, none⟩ (.bool b2) (ne_blk (a := W0.heap.size) (b := W0.heap.size + 1) (by omega)))
                    have Q2 := (OwnL.set D2 W b2)
                    have Q3 := (OwnL.far D3 ⟨W0.heap.size + 1, W, none⟩ (.bool b2) (ne_blk (a := W0.heap.size + 2) (b := W0.heap.size + 1) (by omega)))
                    have Q4 := (OwnL.far D4 ⟨W0.heap.size + 1, W, none⟩ (.bool b2) (ne_blk (a := W0.heap.size + 3) (b := W0.heap.size + 1) (by omega)))
                    have Q5 := (OwnL.far D5 ⟨W0.heap.size + 1, W, none⟩ (.bool b2) (ne_blk (a := gs) (b := W0.heap.size + 1) (by omega)))
                    have QB := (Below.setCell DB (p := ⟨W0.heap.size + 1, W, none⟩) (by show w.heap.size ≤ W0.heap.size + 1; omega) (.bool b2))
                    rw [← F1.out] at Q1
                    rw [← F2.out] at Q2
                    rw [← F3.out] at Q3
                    rw [← F4.out] at Q4
                    clear F1 F2 F3 F4 q1 q2 q3 q4 q5 hbel D1 D2 D3 D4 D5 DB
                    go_wp2_with fail
                    refine wp_region_still_tail 27 (by kernel_rfl) (by kernel_rfl) ?_
                    simp only [List.take_succ_cons, List.take_zero, List.drop_succ_cons, List.drop_zero]
                    change wpStill _ _ (World.drew ((wo.setCell ⟨W0.heap.size + 2, j, none⟩ (.int .i64 W)).setCell ⟨W0.heap.size, j, none⟩ (.bool b1))) (fun a' => wpList _ _ _ _ a' (World.drew ((wo.setCell ⟨W0.heap.size + 2, j, none⟩ (.int .i64 W)).setCell ⟨W0.heap.size, j, none⟩ (.bool b1)))) _ _
                    rw [hwd]
                    clear hwd
                    refine St.out ?_
                    repeat (first | (refine St.want rfl (fun K hK => ?_); go_simp; refine hK _ ?_; clear hK K) | (refine St.skip rfl ?_; simp only [Act.put, List.setIfInBounds_toArray, List.set_cons_zero, List.set_cons_succ]))
                    refine St.nil ?_
                    go_wp2
                    go_roundg (n - (k + 1))
                    case rel => exact ⟨k + 1, by omega, rfl, by go_num, Q1, Q2, Q3, Q4, Q5, QB⟩
                    case measure => omega
            · obtain rfl : n = k := by omega
              rw [SB.out] at q1
              rw [SE.out] at q2
              rw [SU.out] at q3
              rw [SL.out] at q4
              clear q5
              obtain ⟨wo, hwo⟩ : ∃ wo : World, wo = wr := ⟨_, rfl⟩
              subst hwo
              have hlo := (q4.lt (g := W0.heap.size + 3) rfl).2
              go_wp2_with fail
              refine (HREC.out _ H (upP low q) _ HUP.out q3.rd (Nat.le_refl _)).mono ?_
              rintro e w5 ⟨A5, n5, c5, rfl, O5, B5⟩
              obtain rfl : n5 = I := by rw [← O5.len.out, HLI.out]
              have q1' := q1.below B5 (Nat.le_refl _)
              have q2' := q2.below B5 (Nat.le_refl _)
              have q4' := q4.below B5 (Nat.le_refl _)
              have BW5 := bstep hbel B5
              have hz5 := B5.size
              have hz5' := BW5.size
              clear q1 q2 q3 q4 hbel
              go_wp2_with (at_builtin; refine wpList_appLN (emb := bv) _ rfl (.tmp 166) (.tmp 168) _ rfl w.heap.size 4 (.bool false) 1 Try.underlying31 info_bool rfl (some ⟨W0.heap.size, 0, none⟩) H H (fstL H low) rfl q1' A5 n5 c5 (loopL d (upP low q)) rfl O5.rd (fun _ => rfl) (H + n5) rfl _ rfl (by unfold maxLen; omega) (by omega) hz5' ?_; intro A6 c6 w6 O6 G6 L6)
              have B6 : Below w.heap.size w w6 := bgrown BW5 G6 hz5' (fun g hg => (q1'.lt hg).1)
              have q2'' := q2'.grown G6 (fun g hg => by rw [blk_some] at hg; injection hg with hg; subst hg; exact ne_blk (by omega))
              have q4'' := q4'.grown G6 (fun g hg => by rw [blk_some] at hg; injection hg with hg; subst hg; exact ne_blk (by omega))
              have hz6 := G6.size
              clear O5
              refine (HREC.out _ H (loP low q) _ HLP.out q4''.rd (Nat.le_refl _)).mono ?_
              rintro e w7 ⟨A7, n7, c7, rfl, O7, B7⟩
              obtain rfl : n5 = n7 := by rw [← O7.len.out, HLI.out]
              have O6' := O6.below B7 (Nat.le_refl _)
              have q2a := q2''.below B7 (Nat.le_refl _)
              have BW7 := bstep B6 B7
              have hz7 := B7.size
              have hz7' := BW7.size
              go_wp2_with (first
                | (at_builtin; refine wpList_appLN (emb := bv) _ rfl (.tmp 169) (.tmp 171) _ rfl w.heap.size 4 (.bool false) 1 Try.underlying31 info_bool rfl A6 (H + n5) c6 (fstL H low ++ loopL d (upP low q)) rfl O6' A7 n5 c7 (loopL d (loP low q)) rfl O7.rd (fun _ => rfl) (H + n5 + n5) rfl _ rfl (by unfold maxLen; omega) (by omega) hz7' ?_; intro A8 c8 w8 O8 G8 L8; have q2b := q2a.grown G8 (fun g hg => by
                    rcases L6 with h6 | h6
                    · rw [h6, blk_some] at hg; injection hg with hg; subst hg; exact ne_blk (by omega)
                    · rw [h6] at hg; injection hg with hg; subst hg; exact ne_blk (by omega)); have B8 : Below w.heap.size w w8 := bgrown BW7 G8 hz7' (fun g hg => (O6'.lt hg).1); have hz8 := B8.size)
                | (at_builtin; refine wpList_appLN (emb := bv) _ rfl (.tmp 172) (.tmp 173) _ rfl w.heap.size 4 (.bool false) 1 Try.underlying31 info_bool rfl A8 (H + n5 + n5) c8 _ rfl O8 (some ⟨W0.heap.size + 1, 0, none⟩) H H (lstL H low q) rfl q2b.rd (fun _ => rfl) (H + n5 + n5 + H) rfl _ rfl (by unfold maxLen; omega) (by omega) hz8 ?_; intro A9 c9 w9 O9 G9 L9)
                | fail)
              go_ret
              exact ⟨_, _, _, rfl, by rw [HE.out]; exact O9, bgrown B8 G9 hz8 (fun g hg => (O8.lt hg).1)⟩
theorem spec_l3Set1 (A : Option Addr) (c : Nat) (q : Nat → Nat) (w : World) (h : IsP 4 q) (hx : RdL iv w A 4 (permN 4 q)) (hc : 4 ≤ c) :
    Calls Try.prog 66 #[.slice A 4 c] w (RetO bv 4 (loopL 1 q) w) :=
  spec_l3Set_step 0 4 2 1 6 (.inl rfl) rfl rfl rfl (by omega) A c q w h hx hc spec_l3Set0
theorem spec_l3Set2 (A : Option Addr) (c : Nat) (q : Nat → Nat) (w : World) (h : IsP 8 q) (hx : RdL iv w A 8 (permN 8 q)) (hc : 8 ≤ c) :
    Calls Try.prog 66 #[.slice A 8 c] w (RetO bv 4 (loopL 2 q) w) :=
  spec_l3Set_step 1 8 4 6 20 (.inr rfl) rfl rfl rfl (by omega) A c q w h hx hc spec_l3Set1
end Go.Proofs.Ytiahpaakkijejaa
