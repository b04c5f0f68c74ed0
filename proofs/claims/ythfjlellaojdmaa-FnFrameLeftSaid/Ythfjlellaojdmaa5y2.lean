/- l20Even: a drawn table is square, with at most 6 rows. Condition: fewer than 800000 picks so far. -/
import Derived.Test.Ythfjlellaojdmaa5y
namespace Go.Proofs.Ythfjlellaojdmaa
open Go.RowKit
set_option linter.unusedSimpArgs false
set_option linter.unusedVariables false
def EvenDrawn (w : World) (rb P : Nat) (e : Ending) (w' : World) : Prop := ∃ (A : Option Addr) (n c : Nat) (L : Nat → Nat → Int), e = .returned (.slice A n c) ∧ n ≤ 6 ∧ OwnT w' w.heap.size w'.heap.size A n c (tabF n L) ∧ Rdr w' rb (P + 40) ∧ w.grownBy w' (some rb)
set_option maxRecDepth 100000 in
set_option maxHeartbeats 2000000 in
theorem l20Even_any (w : World) (rb P : Nat) (hr : Rdr w rb P) (hP : P ≤ 800000) :
    Calls Try.prog 61 #[.pointer (some ⟨rb, 0, none⟩)] w (EvenDrawn w rb P) := by
  have hlt := hr.lt
  go_enter Try.func61, Try.ntmps61
  go_wp2_with fail
  refine (pick_n 7 hr (by omega) (by omega) (by omega)).mono ?_
  rintro x w1 ⟨N, rfl, H1, R1, G1⟩
  have hN : N ≤ 6 := by have := H1.out; omega
  have z1 := G1.size
  obtain ⟨hs0, hT0⟩ := (OwnT.lit0 (B := w.heap.size) w1 z1).tight
  have R1a := R1.alloc (.cells #[] 30)
  have G1a := galloc G1 (.cells #[] 30)
  go_wp2_with fail
  refine (pick_n 7 R1a (by omega) (by omega) (by omega)).mono ?_
  rintro x w2 ⟨K, rfl, H2, R2, G2⟩
  have hK : K ≤ 6 := by have := H2.out; omega
  have z2 := G2.size
  have hT2 := (hT0.keep (w' := w2) (fun g h1 h2 => G2.block g h2 (fun e => by injection e; omega))).up z2
  have G2' := gtrans G1a G2
  clear hT0 R1a G1a
  go_wp2
  go_loopg [4, 5] K (fun g s4 s5 wr => ∃ (s d : Nat) (A4 : Option Addr) (c4 : Nat) (hs : List Hd) (rows : List (List Int)), s + d = K ∧ d = g ∧ s5 = .int .i64 d ∧ s4 = .slice A4 s c4 ∧ TabH wr w.heap.size wr.heap.size A4 s c4 rows hs ∧ Hid (∀ r ∈ rows, r.length = N) ∧ Rdr wr rb (P + 2 + 6 * s) ∧ w.grownBy wr (some rb))
  case atStart => exact ⟨0, K, _, _, hs0, [], by omega, rfl, rfl, rfl, hT2, (fun r hr => by cases hr), R2, G2'⟩
  case round =>
    clear hT2 R2 G2' hs0 G1 G2 R1
    obtain ⟨s, d, A4, c4, hs, rows, hsd, rfl, rfl, rfl, hT, HR, R, G⟩ := hrel
    have hz := G.size
    rcases Nat.eq_zero_or_pos d with h0 | h0
    · subst h0
      have hTo : OwnT wr w.heap.size wr.heap.size A4 s c4 rows := ⟨hs, hT⟩
      go_wp2_with fail
      refine (spec_Load N A4 s c4 rows _ hN hTo.rd (by omega) HR.out).mono ?_
      rintro x w3 ⟨A3, n3, c3, L, rfl, hn3, hT3, b3⟩
      have R3 := R.below b3
      have G3 := gtrans G (gbelow b3 (some rb))
      go_wp2
      go_ret
      exact ⟨A3, n3, c3, L, rfl, hn3, hT3.mono hz, R3.more (by omega), G3⟩
    · go_wp2_with fail
      refine (l20Perm_any wr rb (P + 2 + 6 * s) N R (by omega) (by omega)).mono ?_
      rintro x w3 ⟨gp, cp, xs, rfl, hO, R3, G3⟩
      have HXL := hO.len
      have z3 := G3.size
      have hT3 := hT.keep (w' := w3) (fun g h1 h2 => G3.block g h2 (fun e => by injection e; omega))
      have hO3 : OwnL iv w3 w.heap.size 3 (some ⟨gp, 0, none⟩) N cp xs := hO.mono hz
      have hOn : ∀ b, blk (some (⟨gp, 0, none⟩ : Addr)) = some b → wr.heap.size ≤ b := fun b hb => (hO.lt hb).1
      have OH := hT3.own.alloc (.cells #[hdv ⟨some ⟨gp, 0, none⟩, N, cp⟩] 30)
      have G3' := gtrans G G3
      go_wp2_with (first
        | (at_builtin; refine wpList_appLN (emb := hdv) _ rfl (.tmp 15) (.tmp 19) _ rfl w.heap.size 30 (.slice none 0 0) 24 Try.underlying23 info_row rfl A4 s c4 hs rfl OH _ 1 1 [⟨some ⟨gp, 0, none⟩, N, cp⟩] rfl (rd_hd w3 (some ⟨gp, 0, none⟩) N cp) hdv_one (s + 1) rfl _ rfl (by unfold maxLen; omega) (by omega) (by simp; omega) ?_; intro A6 c6 w6 O6 G6 L6)
        | fail)
      have z6 := G6.size
      simp at z6
      have hT6 := tab_push2 hT3 hO3 hOn z3 O6 G6 L6
      have hgr : ∀ g, blk A4 = some g → w.heap.size ≤ g := fun g hg => (hT3.own.lt hg).1
      have R6 := (R3.alloc (.cells #[hdv ⟨some ⟨gp, 0, none⟩, N, cp⟩] 30)).grown G6 (fun g hg => by have := hgr g hg; omega)
      have G6' := gcomp (galloc G3' _) G6 hgr
      go_roundg (d - 1)
      case rel => exact ⟨s + 1, d - 1, A6, c6, _, _, by omega, rfl, by go_num, rfl, hT6, (fun r hr => by
        rcases List.mem_append.1 hr with h | h
        · exact HR.out r h
        · simp at h; subst h; exact HXL.out), R6.more (by omega), G6'⟩
      case measure => omega
end Go.Proofs.Ythfjlellaojdmaa
