/- The plain mathematics of moved calls, second part: the next call of the chain is the one that is found among the moved calls; the moved calls are valid; how many are moved. No condition. -/
import Derived.Test.Ytcickfahpcmcdaa4m
namespace Go.Proofs.Ytcickfahpcmcdaa
set_option linter.unusedSimpArgs false
set_option linter.unusedVariables false
section
variable {o e m a b x0 : Int} {cs : List Cl}
theorem chain_next (h : Chn o e m a b x0 cs) {t l : Nat} {d : Cl} (hat : chainJ cs e a b x0 t = some l) (hd : cs[l]? = some d) {k : Nat} :
    chainJ cs e a b x0 (t + 1) = some k ↔ k ≠ l ∧ ∃ c, (flips cs e a b x0 (t + 1))[k]? = some c ∧ c.v = viaJ a b (t + 1) ∧ innJ e (t + 1) c = outJ e t d := by
  have hnode : nodeJ cs e a b x0 (t + 1) = some (outJ e t d) := (node_succ_iff h).2 ⟨l, d, hat, hd, rfl⟩
  constructor
  · intro hk
    obtain ⟨c, hc, hv, hn⟩ := chain_at h hk
    rw [hnode] at hn; injection hn with hn
    refine ⟨fun e1 => ?_, c, ?_, hv, hn.symm⟩
    · subst e1; have := chain_inj h hk hat; omega
    · have hno : ¬ Chosen cs e a b x0 (t + 1) k := fun ⟨j, hj, hk'⟩ => by have := chain_inj h hk' hk; omega
      rw [(flips_both h (t + 1) k).2 hno]; exact hc
  · rintro ⟨hne, c, hc, hv, hi⟩
    by_cases hch : Chosen cs e a b x0 (t + 1) k
    · exfalso
      rw [(flips_both h (t + 1) k).1 hch] at hc
      obtain ⟨c0, hc0, rfl⟩ := Option.map_eq_some_iff.1 hc
      obtain ⟨j, hj, hk⟩ := hch
      obtain ⟨c1, hc1, hv1, _⟩ := chain_at h hk
      rw [hc0] at hc1; injection hc1 with hc1; subst hc1
      have hv2 : viaJ a b (j + 1) = viaJ a b (t + 1) := by rw [via_succ, ← hv1]; exact hv
      have hp := via_parity h.ne hv2
      obtain ⟨d1, hd1, hvd, _⟩ := chain_at h hat
      rw [hd] at hd1; injection hd1 with hd1; subst hd1
      have hvv : c0.v = d.v := by rw [hv1, hvd]; unfold viaJ; rw [show j % 2 = t % 2 by omega]
      have hii : innJ e (t + 1) c0 = innJ e (t + 1) d := by rw [inn_succ e t d, ← hi]; rfl
      exact hne (h.uniq_inn hc0 hd hvv hii)
    · rw [(flips_both h (t + 1) k).2 hch] at hc
      exact (chain_iff h).2 ⟨_, c, hnode, hc, hv, hi⟩
theorem chain_zero (h : Chn o e m a b x0 cs) {k : Nat} : chainJ cs e a b x0 0 = some k ↔ ∃ c, cs[k]? = some c ∧ c.v = a ∧ c.o / e = x0 := by
  rw [chain_iff h]
  constructor
  · rintro ⟨x, c, hn, hc, hv, hi⟩
    simp [nodeJ] at hn
    subst hn
    exact ⟨c, hc, hv, hi⟩
  · rintro ⟨c, hc, hv, hi⟩
    exact ⟨x0, c, rfl, hc, hv, hi⟩

/-- A chain that has ended: the moved calls are valid, with the further one behind them. -/
theorem flips_ok (h : Chn o e m a b x0 cs) {L : Nat} (hL : chainJ cs e a b x0 L = none) {i q : Int} (hx0 : x0 = q / e) (ha0 : 0 ≤ a) (ha1 : a < m) (hb0 : 0 ≤ b) (hb1 : b < m)
    (hlf : LinesFree o e cs i q) (hna : ∀ c ∈ cs, c.i / e = i / e → c.v ≠ a) : CallsOk o e m (flips cs e a b x0 L ++ [⟨i, q, a⟩]) := by
  -- what stands at a place
  have hat : ∀ k c, (flips cs e a b x0 L)[k]? = some c → ∃ c0, cs[k]? = some c0 ∧ ((c = c0 ∧ ¬ Chosen cs e a b x0 L k) ∨ (∃ j, j < L ∧ chainJ cs e a b x0 j = some k ∧ c0.v = viaJ a b j ∧ c = ⟨c0.i, c0.o, viaJ a b (j + 1)⟩)) := by
    intro k c hc
    by_cases hch : Chosen cs e a b x0 L k
    · rw [(flips_both h L k).1 hch] at hc
      obtain ⟨c0, hc0, rfl⟩ := Option.map_eq_some_iff.1 hc
      obtain ⟨j, hj, hk⟩ := hch
      obtain ⟨c1, hc1, hv1, _⟩ := chain_at h hk
      rw [hc0] at hc1; injection hc1 with hc1; subst hc1
      exact ⟨c0, hc0, .inr ⟨j, hj, hk, hv1, by unfold flipC; rw [via_succ, hv1]⟩⟩
    · rw [(flips_both h L k).2 hch] at hc
      exact ⟨c, hc, .inl ⟨rfl, hch⟩⟩
  have hvr : ∀ j, 0 ≤ viaJ a b j ∧ viaJ a b j < m := by intro j; unfold viaJ; split <;> omega
  -- a call that is not moved and one that is never meet
  have hmeet : ∀ k l j c d, cs[k]? = some c → ¬ Chosen cs e a b x0 L k → cs[l]? = some d → j < L → chainJ cs e a b x0 j = some l → c.v = viaJ a b (j + 1) → c.i / e ≠ d.i / e ∧ c.o / e ≠ d.o / e := by
    intro k l j c d hc hno hd hj hl hv
    obtain ⟨d1, hd1, hvd, hnd⟩ := chain_at h hl
    rw [hd] at hd1; injection hd1 with hd1; subst hd1
    have hout : innJ e (j + 1) c ≠ innJ e (j + 1) d := by
      intro heq
      have hk : chainJ cs e a b x0 (j + 1) = some k := (chain_iff h).2 ⟨_, c, (node_succ_iff h).2 ⟨l, d, hl, hd, rfl⟩, hc, hv, by rw [heq, inn_succ]⟩
      rcases (by omega : j + 1 < L ∨ j + 1 = L) with h1 | h1
      · exact hno ⟨j + 1, h1, hk⟩
      · rw [h1, hL] at hk; cases hk
    have hinn : innJ e j c ≠ innJ e j d := by
      intro heq
      cases j with
      | zero =>
        simp [nodeJ] at hnd
        have e1 : c.o / e = x0 := by rw [hnd]; exact heq
        have e2 : c.v = b := by rw [hv]; rfl
        exact h.nob c (List.mem_of_getElem? hc) e1 e2
      | succ s =>
        obtain ⟨p, f, hp, hf, hy⟩ := (node_succ_iff h).1 hnd
        obtain ⟨f1, hf1, hvf, _⟩ := chain_at h hp
        rw [hf] at hf1; injection hf1 with hf1; subst hf1
        have hvv : c.v = f.v := by rw [hv, hvf, via_succ, via_succ]; omega
        have hii : innJ e (s + 1) c = innJ e (s + 1) f := by rw [heq, inn_succ e s f, hy]
        have := h.uniq_inn hc hf hvv hii
        subst this
        exact hno ⟨s, by omega, hp⟩
    unfold innJ at hout hinn
    by_cases hp : j % 2 = 0
    · rw [if_pos hp, if_pos hp] at hinn
      rw [if_neg (by omega), if_neg (by omega)] at hout
      exact ⟨hout, hinn⟩
    · rw [if_neg hp, if_neg hp] at hinn
      rw [if_pos (by omega), if_pos (by omega)] at hout
      exact ⟨hinn, hout⟩
  rw [callsOk_snoc]
  refine ⟨⟨h.ok.1, fun c hc => ?_, ?_⟩, ⟨hlf.1, hlf.2.1, ha0, ha1⟩, fun c hc => ?_⟩
  · obtain ⟨k, hk⟩ := List.getElem?_of_mem hc
    obtain ⟨c0, hc0, ⟨rfl, _⟩ | ⟨j, hj, hl, hv, rfl⟩⟩ := hat k c hk
    · exact h.ok.okAt hc0
    · have := h.ok.okAt hc0
      exact ⟨this.1, this.2.1, (hvr (j + 1)).1, (hvr (j + 1)).2⟩
  · rw [List.pairwise_iff_getElem]
    intro k l hk hl hkl
    obtain ⟨c0, hc0, hc⟩ := hat k _ (List.getElem?_eq_getElem hk)
    obtain ⟨d0, hd0, hd⟩ := hat l _ (List.getElem?_eq_getElem hl)
    have hcd := h.ok.compat hc0 hd0 (by omega)
    generalize (flips cs e a b x0 L)[k] = c at hc
    generalize (flips cs e a b x0 L)[l] = d at hd
    rcases hc with ⟨rfl, hno⟩ | ⟨j, hj, hck, hv, rfl⟩ <;> rcases hd with ⟨rfl, hno'⟩ | ⟨j', hj', hck', hv', rfl⟩
    · exact hcd
    · exact ⟨hcd.1, hcd.2.1, fun he => hmeet k l j' c d0 hc0 hno hd0 hj' hck' he⟩
    · exact ⟨hcd.1, hcd.2.1, fun he => by
        have := hmeet l k j d c0 hd0 hno' hc0 hj hck he.symm
        exact ⟨fun x => this.1 x.symm, fun x => this.2 x.symm⟩⟩
    · refine ⟨hcd.1, hcd.2.1, fun he => hcd.2.2 ?_⟩
      have he' : viaJ a b (j + 1) = viaJ a b (j' + 1) := he
      have := via_parity h.ne he'
      rw [hv, hv']; unfold viaJ; rw [show j % 2 = j' % 2 by omega]
  · obtain ⟨k, hk⟩ := List.getElem?_of_mem hc
    obtain ⟨c0, hc0, ⟨rfl, hno⟩ | ⟨j, hj, hl, hv, rfl⟩⟩ := hat k c hk
    · have hm := List.mem_of_getElem? hc0
      refine ⟨(hlf.2.2 c hm).1, (hlf.2.2 c hm).2, fun he => ⟨fun hi => hna c hm hi he, fun hq => ?_⟩⟩
      have h0 : chainJ cs e a b x0 0 = some k := (chain_zero h).2 ⟨c, hc0, he, by rw [hx0]; exact hq⟩
      cases L with
      | zero => rw [hL] at h0; cases h0
      | succ L => exact hno ⟨0, by omega, h0⟩
    · have hm := List.mem_of_getElem? hc0
      refine ⟨(hlf.2.2 c0 hm).1, (hlf.2.2 c0 hm).2, fun he => ?_⟩
      have he' : viaJ a b (j + 1) = viaJ a b 0 := he
      have hp := via_parity h.ne he'
      have hp' : ¬ j % 2 = 0 := by omega
      have hvb : c0.v = b := by rw [hv]; unfold viaJ; rw [if_neg hp']
      refine ⟨fun hi => ?_, fun hq => h.nob c0 hm (by rw [hx0]; exact hq) hvb⟩
      obtain ⟨s, rfl⟩ : ∃ s, j = s + 1 := ⟨j - 1, by omega⟩
      obtain ⟨c1, hc1, _, hn⟩ := chain_at h hl
      rw [hc0] at hc1; injection hc1 with hc1; subst hc1
      obtain ⟨p, f, hp1, hf, hy⟩ := (node_succ_iff h).1 hn
      obtain ⟨f1, hf1, hvf, _⟩ := chain_at h hp1
      rw [hf] at hf1; injection hf1 with hf1; subst hf1
      have hs : s % 2 = 0 := by omega
      have e1 : f.v = a := by rw [hvf]; unfold viaJ; rw [if_pos hs]
      have e2 : f.i / e = c0.i / e := by
        have := hy
        unfold outJ innJ at this
        rw [if_pos hs, if_neg (by omega)] at this
        exact this
      exact hna f (List.mem_of_getElem? hf) (by rw [e2]; exact hi) e1

/-- How long the chain is at most. -/
theorem chain_short (h : Chn o e m a b x0 cs) {i : Int} (hi : LineOk o e i) (hna : ∀ c ∈ cs, c.i / e = i / e → c.v ≠ a) {L : Nat} (hall : ∀ j, j < L → ∃ k, chainJ cs e a b x0 j = some k) : (L : Int) ≤ 2 * o - 2 := by
  obtain ⟨ho, ho', he, he', _⟩ := h.ok.1
  have hdiv : ∀ x, LineOk o e x → 0 ≤ x / e ∧ x / e < o := fun x hx =>
    ⟨Int.ediv_nonneg hx.1 (by omega), Int.ediv_lt_of_lt_mul (by omega) hx.2⟩
  have hf : ∀ s, 2 * s < L → ∃ k c, chainJ cs e a b x0 (2 * s) = some k ∧ cs[k]? = some c ∧ c.v = a := by
    intro s hs
    obtain ⟨k, hk⟩ := hall (2 * s) hs
    obtain ⟨c, hc, hv, _⟩ := chain_at h hk
    exact ⟨k, c, hk, hc, by rw [hv]; unfold viaJ; rw [if_pos (by omega)]⟩
  let g : Nat → Int := fun s => (((chainJ cs e a b x0 (2 * s)).bind fun k => cs[k]?).map fun c => c.i / e).getD 0
  have hg : ∀ s, 2 * s < L → ∃ k c, chainJ cs e a b x0 (2 * s) = some k ∧ cs[k]? = some c ∧ c.v = a ∧ g s = c.i / e := by
    intro s hs
    obtain ⟨k, c, h1, h2, h3⟩ := hf s hs
    exact ⟨k, c, h1, h2, h3, by show (((chainJ cs e a b x0 (2 * s)).bind fun k => cs[k]?).map fun c => c.i / e).getD 0 = _; rw [h1]; simp [h2]⟩
  have hn : (i / e :: (List.range ((L + 1) / 2)).map g).Nodup := by
    rw [List.nodup_cons]
    constructor
    · intro hm
      obtain ⟨s, hs, hgs⟩ := List.mem_map.1 hm
      rw [List.mem_range] at hs
      obtain ⟨k, c, h1, h2, h3, h4⟩ := hg s (by omega)
      exact hna c (List.mem_of_getElem? h2) (by rw [← h4, hgs]) h3
    · unfold List.Nodup
      rw [List.pairwise_map]
      refine List.Pairwise.imp_of_mem ?_ (List.nodup_range (n := (L + 1) / 2))
      intro s t hs ht hne heq
      rw [List.mem_range] at hs ht
      obtain ⟨k, c, h1, h2, h3, h4⟩ := hg s (by omega)
      obtain ⟨k', c', h1', h2', h3', h4'⟩ := hg t (by omega)
      have hkk : k = k' := h.uniq_inn (j := 1) h2 h2' (by rw [h3, h3']) (by show c.i / e = c'.i / e; rw [← h4, ← h4', heq])
      subst hkk
      have := chain_inj h h1 h1'
      omega
  have := nodup_len_le (n := o.toNat) hn (fun x hx => by
    rcases List.mem_cons.1 hx with rfl | hx
    · have := hdiv i hi; omega
    · obtain ⟨s, hs, rfl⟩ := List.mem_map.1 hx
      rw [List.mem_range] at hs
      obtain ⟨k, c, h1, h2, h3, h4⟩ := hg s (by omega)
      have := hdiv c.i (h.ok.okAt h2).1
      rw [h4]; omega)
  simp at this
  omega
end

/-- At how many places calls go through different middle switches. -/
def movedC (xs ys : List Cl) : Int := ((xs.zip ys).map fun p => if p.1.v = p.2.v then (0 : Int) else 1).sum
theorem movedC_nil (ys : List Cl) : movedC [] ys = 0 := by simp [movedC]
theorem movedC_cons (x y : Cl) (xs ys : List Cl) : movedC (x :: xs) (y :: ys) = (if x.v = y.v then 0 else 1) + movedC xs ys := by simp [movedC]
theorem movedC_modify (f : Cl → Cl) (xs ys : List Cl) (k : Nat) : movedC xs (ys.modify k f) ≤ movedC xs ys + 1 := by
  induction xs generalizing ys k with
  | nil => simp [movedC]
  | cons x xs ih =>
    cases ys with
    | nil => simp [movedC]
    | cons y ys =>
      cases k with
      | zero =>
        simp only [List.modify_zero_cons, movedC_cons]
        split <;> split <;> omega
      | succ k =>
        simp only [List.modify_succ_cons, movedC_cons]
        have := ih ys k
        omega
theorem movedC_self (xs : List Cl) : movedC xs xs = 0 := by
  induction xs with
  | nil => simp [movedC]
  | cons x xs ih => rw [movedC_cons, ih]; simp
theorem movedC_comm (xs ys : List Cl) : movedC xs ys = movedC ys xs := by
  induction xs generalizing ys with
  | nil => cases ys <;> simp [movedC]
  | cons x xs ih =>
    cases ys with
    | nil => simp [movedC]
    | cons y ys =>
      rw [movedC_cons, movedC_cons, ih]
      by_cases h : x.v = y.v
      · simp [h]
      · rw [if_neg h, if_neg (fun e => h e.symm)]
theorem movedC_le (xs ys : List Cl) : 0 ≤ movedC xs ys ∧ movedC xs ys ≤ xs.length := by
  induction xs generalizing ys with
  | nil => simp [movedC]
  | cons x xs ih =>
    cases ys with
    | nil => simp [movedC]; omega
    | cons y ys =>
      have := ih ys
      rw [movedC_cons, List.length_cons]
      split <;> omega
theorem movedC_app (xs ys zs : List Cl) (h : xs.length = ys.length) : movedC xs (ys ++ zs) = movedC xs ys := by
  induction xs generalizing ys with
  | nil => simp [movedC]
  | cons x xs ih =>
    cases ys with
    | nil => simp at h
    | cons y ys => rw [List.cons_append, movedC_cons, movedC_cons, ih ys (by simpa using h)]
theorem movedC_flips (cs : List Cl) (e a b x0 : Int) (t : Nat) : movedC cs (flips cs e a b x0 t) ≤ t := by
  induction t with
  | zero => show movedC cs cs ≤ _; rw [movedC_self]; simp
  | succ t ih =>
    cases hc : chainJ cs e a b x0 t with
    | none => rw [flips_none hc]; omega
    | some k => rw [flips_some hc]; have := movedC_modify (flipC a b) cs (flips cs e a b x0 t) k; omega

/-- CallMove, plainly. -/
def moveA (e m : Int) (cs : List Cl) (i : Int) : Int := firstV m (usedFrom e cs (i / e))
def moveB (e m : Int) (cs : List Cl) (q : Int) : Int := firstV m (usedTo e cs (q / e))
def movedL (e m : Int) (cs : List Cl) (i q : Int) : List Cl := flips cs e (moveA e m cs i) (moveB e m cs q) (q / e) cs.length
def moveL (o e m : Int) (cs : List Cl) (i q : Int) : List Cl × Bool :=
  if CallsOk o e m cs ∧ e ≤ m then
    if LinesFree o e cs i q then
      match freeL o e m cs i q with
      | v :: _ => (cs ++ [⟨i, q, v⟩], true)
      | [] => (movedL e m cs i q ++ [⟨i, q, moveA e m cs i⟩], true)
    else (cs, false)
  else ([], false)
section
variable {o e m i q : Int} {cs : List Cl}
theorem moveA_ok (h : CallsOk o e m cs) (hem : e ≤ m) (hf : LinesFree o e cs i q) : 0 ≤ moveA e m cs i ∧ moveA e m cs i < m ∧ ∀ c ∈ cs, c.i / e = i / e → c.v ≠ moveA e m cs i := by
  unfold moveA
  have hl := from_lt (i := i) h (fun c hc => (hf.2.2 c hc).1)
  obtain ⟨v, h0, h1, hv⟩ := exists_not_mem (l := (cs.filter fun c => decide (c.i / e = i / e)).map Cl.v) (n := m.toNat) (by simp; omega)
  have hu : usedFrom e cs (i / e) v = false := by
    rw [← Bool.not_eq_true, usedFrom_iff]
    rintro ⟨c, hc, hi, rfl⟩
    exact hv (List.mem_map.2 ⟨c, List.mem_filter.2 ⟨hc, by simpa using hi⟩, rfl⟩)
  rcases firstV_cases m (usedFrom e cs (i / e)) with ⟨a1, a2, a3⟩ | ⟨_, a2⟩
  · refine ⟨a1, a2, fun c hc hi hvv => ?_⟩
    rw [← Bool.not_eq_true, usedFrom_iff] at a3
    exact a3 ⟨c, hc, hi, hvv⟩
  · rw [a2 v h0 (by omega)] at hu; cases hu
theorem moveB_ok (h : CallsOk o e m cs) (hem : e ≤ m) (hf : LinesFree o e cs i q) : 0 ≤ moveB e m cs q ∧ moveB e m cs q < m ∧ ∀ c ∈ cs, c.o / e = q / e → c.v ≠ moveB e m cs q := by
  unfold moveB
  have hl := to_lt (q := q) h (fun c hc => (hf.2.2 c hc).2)
  obtain ⟨v, h0, h1, hv⟩ := exists_not_mem (l := (cs.filter fun c => decide (c.o / e = q / e)).map Cl.v) (n := m.toNat) (by simp; omega)
  have hu : usedTo e cs (q / e) v = false := by
    rw [← Bool.not_eq_true, usedTo_iff]
    rintro ⟨c, hc, hi, rfl⟩
    exact hv (List.mem_map.2 ⟨c, List.mem_filter.2 ⟨hc, by simpa using hi⟩, rfl⟩)
  rcases firstV_cases m (usedTo e cs (q / e)) with ⟨a1, a2, a3⟩ | ⟨_, a2⟩
  · refine ⟨a1, a2, fun c hc hi hvv => ?_⟩
    rw [← Bool.not_eq_true, usedTo_iff] at a3
    exact a3 ⟨c, hc, hi, hvv⟩
  · rw [a2 v h0 (by omega)] at hu; cases hu
theorem chn_of (h : CallsOk o e m cs) (hem : e ≤ m) (hf : LinesFree o e cs i q) (hfree : freeL o e m cs i q = []) : Chn o e m (moveA e m cs i) (moveB e m cs q) (q / e) cs := by
  obtain ⟨a0, a1, a2⟩ := moveA_ok h hem hf
  obtain ⟨b0, b1, b2⟩ := moveB_ok h hem hf
  refine ⟨h, fun hab => ?_, b2⟩
  have : moveA e m cs i ∈ freeL o e m cs i q := by
    rw [mem_freeL]
    refine ⟨h, a0, a1, (further_iff h a0 a1).2 ⟨hf, ?_, ?_⟩⟩
    · rw [← Bool.not_eq_true, usedFrom_iff]; rintro ⟨c, hc, hi, hv⟩; exact a2 c hc hi hv
    · rw [← Bool.not_eq_true, usedTo_iff]; rintro ⟨c, hc, hi, hv⟩; exact b2 c hc hi (by rw [hv, hab])
  rw [hfree] at this; cases this
theorem chain_ends {a b x0 : Int} (h : Chn o e m a b x0 cs) : chainJ cs e a b x0 cs.length = none := by
  cases hc : chainJ cs e a b x0 cs.length with
  | none => rfl
  | some k => have := chain_lt h hc; omega
/-- CallMove's promise. -/
theorem moveL_ok (h : CallsOk o e m cs) (hem : e ≤ m) (hf : LinesFree o e cs i q) : ∃ ys v, moveL o e m cs i q = (ys ++ [⟨i, q, v⟩], true) ∧ CallsOk o e m (ys ++ [⟨i, q, v⟩]) ∧ ys.length = cs.length ∧
    (∀ (k : Nat) c d, ys[k]? = some c → cs[k]? = some d → c.i = d.i ∧ c.o = d.o) ∧ (freeL o e m cs i q = [] ∨ movedC cs ys = 0) ∧ movedC cs ys ≤ 2 * o - 1 := by
  unfold moveL
  rw [if_pos ⟨h, hem⟩, if_pos hf]
  cases hfree : freeL o e m cs i q with
  | cons v r =>
    have hv : v ∈ freeL o e m cs i q := by rw [hfree]; simp
    refine ⟨cs, v, rfl, (mem_freeL.1 hv).2.2.2, rfl, fun k c d hc hd => ?_, .inr (movedC_self cs), ?_⟩
    · rw [hc] at hd; injection hd with hd; subst hd; exact ⟨rfl, rfl⟩
    · rw [movedC_self]; have := h.1; unfold ShapeOk at this; omega
  | nil =>
    have hch := chn_of h hem hf hfree
    obtain ⟨a0, a1, a2⟩ := moveA_ok h hem hf
    obtain ⟨b0, b1, b2⟩ := moveB_ok h hem hf
    refine ⟨movedL e m cs i q, moveA e m cs i, rfl, flips_ok hch (chain_ends hch) rfl a0 a1 b0 b1 hf a2, flips_len _, fun k c d hc hd => ?_, .inl rfl, ?_⟩
    · unfold movedL at hc
      by_cases hcho : Chosen cs e (moveA e m cs i) (moveB e m cs q) (q / e) cs.length k
      · rw [(flips_both hch _ k).1 hcho, hd] at hc
        simp at hc; subst hc; exact ⟨rfl, rfl⟩
      · rw [(flips_both hch _ k).2 hcho, hd] at hc
        injection hc with hc; subst hc; exact ⟨rfl, rfl⟩
    · -- the least end of the chain
      have hex : ∃ L, chainJ cs e (moveA e m cs i) (moveB e m cs q) (q / e) L = none ∧ ∀ j, j < L → ∃ k, chainJ cs e (moveA e m cs i) (moveB e m cs q) (q / e) j = some k := by
        have : ∀ n, chainJ cs e (moveA e m cs i) (moveB e m cs q) (q / e) n = none → ∃ L, chainJ cs e (moveA e m cs i) (moveB e m cs q) (q / e) L = none ∧ ∀ j, j < L → ∃ k, chainJ cs e (moveA e m cs i) (moveB e m cs q) (q / e) j = some k := by
          intro n
          induction n with
          | zero => intro h0; exact ⟨0, h0, fun j hj => absurd hj (Nat.not_lt_zero _)⟩
          | succ n ih =>
            intro h0
            cases hc : chainJ cs e (moveA e m cs i) (moveB e m cs q) (q / e) n with
            | none => exact ih hc
            | some k =>
              refine ⟨n + 1, h0, fun j hj => ?_⟩
              cases hj' : chainJ cs e (moveA e m cs i) (moveB e m cs q) (q / e) j with
              | some l => exact ⟨l, rfl⟩
              | none => rw [chain_none hch hj' (by omega)] at hc; cases hc
        exact this _ (chain_ends hch)
      obtain ⟨L, hL, hall⟩ := hex
      have h1 := chain_short hch hf.1 a2 hall
      have h2 := movedC_flips cs e (moveA e m cs i) (moveB e m cs q) (q / e) L
      have h3 : movedL e m cs i q = flips cs e (moveA e m cs i) (moveB e m cs q) (q / e) L := by
        unfold movedL
        by_cases hle : L ≤ cs.length
        · exact flips_end hch hL hle
        · exact (flips_end hch (chain_ends hch) (by omega)).symm
      rw [h3]; omega
/-- In a strict network a middle switch is free. -/
theorem strict_free (h : CallsOk o e m cs) (hs : 2 * e - 1 ≤ m) (hf : LinesFree o e cs i q) : freeL o e m cs i q ≠ [] := by
  have h1 := from_lt (i := i) h (fun c hc => (hf.2.2 c hc).1)
  have h2 := to_lt (q := q) h (fun c hc => (hf.2.2 c hc).2)
  obtain ⟨v, h0, hm, hv⟩ := exists_not_mem (l := (cs.filter fun c => decide (c.i / e = i / e)).map Cl.v ++ (cs.filter fun c => decide (c.o / e = q / e)).map Cl.v) (n := m.toNat) (by simp; omega)
  intro hnil
  have : v ∈ freeL o e m cs i q := by
    rw [mem_freeL]
    refine ⟨h, h0, by omega, (further_iff h h0 (by omega)).2 ⟨hf, ?_, ?_⟩⟩
    · rw [← Bool.not_eq_true, usedFrom_iff]
      rintro ⟨c, hc, hi, rfl⟩
      exact hv (List.mem_append.2 (.inl (List.mem_map.2 ⟨c, List.mem_filter.2 ⟨hc, by simpa using hi⟩, rfl⟩)))
    · rw [← Bool.not_eq_true, usedTo_iff]
      rintro ⟨c, hc, hi, rfl⟩
      exact hv (List.mem_append.2 (.inr (List.mem_map.2 ⟨c, List.mem_filter.2 ⟨hc, by simpa using hi⟩, rfl⟩)))
  rw [hnil] at this; cases this
end
end Go.Proofs.Ytcickfahpcmcdaa
