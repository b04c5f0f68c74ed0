/- The plain mathematics of calls through three stages: validity, free middle switches, the chain of calls that are moved. No condition. -/
import Derived.Test.YtcickfahpcmcdaaPlain
namespace Go.Proofs.Ytcickfahpcmcdaa
set_option linter.unusedSimpArgs false
set_option linter.unusedVariables false
structure Cl where
  i : Int
  o : Int
  v : Int
deriving DecidableEq
def ShapeOk (o e m : Int) : Prop := 1 ≤ o ∧ o ≤ 4 ∧ 1 ≤ e ∧ e ≤ 3 ∧ 1 ≤ m ∧ m ≤ 5
def LineOk (o e x : Int) : Prop := 0 ≤ x ∧ x < o * e
def OkC (o e m : Int) (c : Cl) : Prop := LineOk o e c.i ∧ LineOk o e c.o ∧ 0 ≤ c.v ∧ c.v < m
def Compat (e : Int) (c d : Cl) : Prop := c.i ≠ d.i ∧ c.o ≠ d.o ∧ (c.v = d.v → c.i / e ≠ d.i / e ∧ c.o / e ≠ d.o / e)
def CallsOk (o e m : Int) (cs : List Cl) : Prop := ShapeOk o e m ∧ (∀ c ∈ cs, OkC o e m c) ∧ cs.Pairwise (Compat e)
instance (o e m : Int) : Decidable (ShapeOk o e m) := by unfold ShapeOk; infer_instance
instance (o e x : Int) : Decidable (LineOk o e x) := by unfold LineOk; infer_instance
instance (o e m : Int) (c : Cl) : Decidable (OkC o e m c) := by unfold OkC; infer_instance
instance (e : Int) (c d : Cl) : Decidable (Compat e c d) := by unfold Compat; infer_instance
instance (o e m : Int) (cs : List Cl) : Decidable (CallsOk o e m cs) := by unfold CallsOk; infer_instance

theorem Compat.symm {e : Int} {c d : Cl} (h : Compat e c d) : Compat e d c :=
  ⟨fun x => h.1 x.symm, fun x => h.2.1 x.symm, fun x => ⟨fun y => (h.2.2 x.symm).1 y.symm, fun y => (h.2.2 x.symm).2 y.symm⟩⟩
theorem callsOk_snoc {o e m : Int} {cs : List Cl} {x : Cl} : CallsOk o e m (cs ++ [x]) ↔ CallsOk o e m cs ∧ OkC o e m x ∧ ∀ c ∈ cs, Compat e c x := by
  unfold CallsOk
  rw [List.pairwise_append]
  constructor
  · rintro ⟨hs, ho, hp, _, hx⟩
    exact ⟨⟨hs, fun c hc => ho c (by simp [hc]), hp⟩, ho x (by simp), fun c hc => hx c hc x (by simp)⟩
  · rintro ⟨⟨hs, ho, hp⟩, hx, hc⟩
    refine ⟨hs, fun c h => ?_, hp, by simp, fun c h d hd => ?_⟩
    · rcases List.mem_append.1 h with h | h
      · exact ho c h
      · simp at h; subst h; exact hx
    · simp at hd; subst hd; exact hc c h
theorem CallsOk.compat {o e m : Int} {cs : List Cl} (h : CallsOk o e m cs) {j k : Nat} {c d : Cl} (hc : cs[j]? = some c) (hd : cs[k]? = some d) (hne : j ≠ k) : Compat e c d := by
  rcases Nat.lt_or_gt_of_ne hne with hl | hl
  · exact pairwise_at h.2.2 hc hd hl
  · exact (pairwise_at h.2.2 hd hc hl).symm
theorem CallsOk.okAt {o e m : Int} {cs : List Cl} (h : CallsOk o e m cs) {k : Nat} {c : Cl} (hc : cs[k]? = some c) : OkC o e m c := h.2.1 c (List.mem_of_getElem? hc)

/-- Both lines are there and have no call. -/
def LinesFree (o e : Int) (cs : List Cl) (i q : Int) : Prop := LineOk o e i ∧ LineOk o e q ∧ ∀ c ∈ cs, c.i ≠ i ∧ c.o ≠ q
instance (o e : Int) (cs : List Cl) (i q : Int) : Decidable (LinesFree o e cs i q) := by unfold LinesFree; infer_instance
def usedFrom (e : Int) (cs : List Cl) (x v : Int) : Bool := cs.any fun c => decide (c.i / e = x) && decide (c.v = v)
def usedTo (e : Int) (cs : List Cl) (x v : Int) : Bool := cs.any fun c => decide (c.o / e = x) && decide (c.v = v)
theorem usedFrom_iff {e : Int} {cs : List Cl} {x v : Int} : usedFrom e cs x v = true ↔ ∃ c ∈ cs, c.i / e = x ∧ c.v = v := by simp [usedFrom]
theorem usedTo_iff {e : Int} {cs : List Cl} {x v : Int} : usedTo e cs x v = true ↔ ∃ c ∈ cs, c.o / e = x ∧ c.v = v := by simp [usedTo]
/-- The middle switches through which a further call can go. -/
def freeL (o e m : Int) (cs : List Cl) (i q : Int) : List Int :=
  if CallsOk o e m cs then (upto m.toNat).filter fun v => decide (CallsOk o e m (cs ++ [⟨i, q, v⟩])) else []
theorem further_iff {o e m : Int} {cs : List Cl} {i q v : Int} (h : CallsOk o e m cs) (h0 : 0 ≤ v) (h1 : v < m) :
    CallsOk o e m (cs ++ [⟨i, q, v⟩]) ↔ LinesFree o e cs i q ∧ usedFrom e cs (i / e) v = false ∧ usedTo e cs (q / e) v = false := by
  rw [callsOk_snoc]
  have e1 : usedFrom e cs (i / e) v = false ↔ ∀ c ∈ cs, c.v = v → c.i / e ≠ i / e := by
    rw [← Bool.not_eq_true, usedFrom_iff]
    exact ⟨fun hn c hc hv hi => hn ⟨c, hc, hi, hv⟩, fun hn ⟨c, hc, hi, hv⟩ => hn c hc hv hi⟩
  have e2 : usedTo e cs (q / e) v = false ↔ ∀ c ∈ cs, c.v = v → c.o / e ≠ q / e := by
    rw [← Bool.not_eq_true, usedTo_iff]
    exact ⟨fun hn c hc hv hi => hn ⟨c, hc, hi, hv⟩, fun hn ⟨c, hc, hi, hv⟩ => hn c hc hv hi⟩
  rw [e1, e2]
  constructor
  · rintro ⟨_, ho, hc⟩
    exact ⟨⟨ho.1, ho.2.1, fun c hm => ⟨(hc c hm).1, (hc c hm).2.1⟩⟩, fun c hm hv => ((hc c hm).2.2 hv).1, fun c hm hv => ((hc c hm).2.2 hv).2⟩
  · rintro ⟨⟨hi, hq, hf⟩, ha, hb⟩
    exact ⟨h, ⟨hi, hq, h0, h1⟩, fun c hm => ⟨(hf c hm).1, (hf c hm).2, fun hv => ⟨ha c hm hv, hb c hm hv⟩⟩⟩
theorem mem_freeL {o e m : Int} {cs : List Cl} {i q v : Int} : v ∈ freeL o e m cs i q ↔ CallsOk o e m cs ∧ 0 ≤ v ∧ v < m ∧ CallsOk o e m (cs ++ [⟨i, q, v⟩]) := by
  unfold freeL
  split
  · rw [List.mem_filter, mem_upto]
    simp only [decide_eq_true_eq]
    constructor
    · rintro ⟨⟨h0, h1⟩, h2⟩; exact ⟨by assumption, h0, by omega, h2⟩
    · rintro ⟨_, h0, h1, h2⟩; exact ⟨⟨h0, by omega⟩, h2⟩
  · rename_i hn; simp [hn]
/-- If the lines have no call, as a filter by what is used. -/
theorem freeL_eq {o e m : Int} {cs : List Cl} {i q : Int} (h : CallsOk o e m cs) (hf : LinesFree o e cs i q) :
    freeL o e m cs i q = (upto m.toNat).filter fun v => !usedFrom e cs (i / e) v && !usedTo e cs (q / e) v := by
  unfold freeL
  rw [if_pos h]
  apply List.filter_congr
  intro v hv
  have := mem_upto.1 hv
  rw [Bool.eq_iff_iff, decide_eq_true_eq, further_iff h this.1 (by omega)]
  simp [hf]
theorem freeL_nil {o e m : Int} {cs : List Cl} {i q : Int} (h : ¬ (CallsOk o e m cs ∧ LinesFree o e cs i q)) : freeL o e m cs i q = [] := by
  rw [List.eq_nil_iff_forall_not_mem]
  intro v hv
  obtain ⟨h1, h2, h3, h4⟩ := mem_freeL.1 hv
  exact h ⟨h1, ((further_iff h1 h2 h3).1 h4).1⟩

/-- Of the calls from one outer switch there are fewer than lines, if one line has none. -/
theorem div_range {e x : Int} (he : 1 ≤ e) : x / e * e ≤ x ∧ x < x / e * e + e := by
  have h1 := Int.mul_ediv_add_emod x e
  have h2 := Int.emod_nonneg x (show e ≠ 0 by omega)
  have h3 := Int.emod_lt_of_pos x (show 0 < e by omega)
  have h4 : e * (x / e) = x / e * e := Int.mul_comm _ _
  omega
theorem nodup_ins {o e m : Int} {cs : List Cl} (h : CallsOk o e m cs) : (cs.map Cl.i).Nodup := by
  unfold List.Nodup; rw [List.pairwise_map]; exact h.2.2.imp (fun h => h.1)
theorem nodup_outs {o e m : Int} {cs : List Cl} (h : CallsOk o e m cs) : (cs.map Cl.o).Nodup := by
  unfold List.Nodup; rw [List.pairwise_map]; exact h.2.2.imp (fun h => h.2.1)
theorem from_lt {o e m : Int} {cs : List Cl} {i : Int} (h : CallsOk o e m cs) (hf : ∀ c ∈ cs, c.i ≠ i) : ((cs.filter fun c => decide (c.i / e = i / e)).length : Int) + 1 ≤ e := by
  obtain ⟨ho, ho', he, he', _⟩ := h.1
  have hn : (i :: (cs.filter fun c => decide (c.i / e = i / e)).map Cl.i).Nodup := by
    rw [List.nodup_cons]
    refine ⟨fun hm => ?_, ?_⟩
    · obtain ⟨c, hc, rfl⟩ := List.mem_map.1 hm
      exact hf c (List.mem_filter.1 hc).1 rfl
    · exact (nodup_ins h).sublist ((List.filter_sublist).map _)
  have := nodup_len_in (lo := i / e * e) (n := e.toNat) hn (fun x hx => by
    rcases List.mem_cons.1 hx with rfl | hx
    · have := div_range (x := x) he; omega
    · obtain ⟨c, hc, rfl⟩ := List.mem_map.1 hx
      have h1 := (List.mem_filter.1 hc).2
      simp at h1
      have := div_range (x := c.i) he; rw [h1] at this; omega)
  simp at this
  omega
theorem to_lt {o e m : Int} {cs : List Cl} {q : Int} (h : CallsOk o e m cs) (hf : ∀ c ∈ cs, c.o ≠ q) : ((cs.filter fun c => decide (c.o / e = q / e)).length : Int) + 1 ≤ e := by
  obtain ⟨ho, ho', he, he', _⟩ := h.1
  have hn : (q :: (cs.filter fun c => decide (c.o / e = q / e)).map Cl.o).Nodup := by
    rw [List.nodup_cons]
    refine ⟨fun hm => ?_, ?_⟩
    · obtain ⟨c, hc, rfl⟩ := List.mem_map.1 hm
      exact hf c (List.mem_filter.1 hc).1 rfl
    · exact (nodup_outs h).sublist ((List.filter_sublist).map _)
  have := nodup_len_in (lo := q / e * e) (n := e.toNat) hn (fun x hx => by
    rcases List.mem_cons.1 hx with rfl | hx
    · have := div_range (x := x) he; omega
    · obtain ⟨c, hc, rfl⟩ := List.mem_map.1 hx
      have h1 := (List.mem_filter.1 hc).2
      simp at h1
      have := div_range (x := c.o) he; rw [h1] at this; omega)
  simp at this
  omega

/-- The first number below m that is not used; -1 if there is none. -/
def firstV (m : Int) (P : Int → Bool) : Int := ((upto m.toNat).find? fun v => !P v).getD (-1)
theorem firstV_cases (m : Int) (P : Int → Bool) : (0 ≤ firstV m P ∧ firstV m P < m ∧ P (firstV m P) = false) ∨ (firstV m P = -1 ∧ ∀ v, 0 ≤ v → v < m → P v = true) := by
  unfold firstV
  cases hf : (upto m.toNat).find? fun v => !P v with
  | none =>
    right
    rw [List.find?_eq_none] at hf
    refine ⟨rfl, fun v h0 h1 => ?_⟩
    have := hf v (mem_upto.2 ⟨h0, by omega⟩)
    simpa using this
  | some v =>
    left
    have h1 := List.find?_some hf
    have h2 := mem_upto.1 (List.mem_of_find?_eq_some hf)
    simp only [Option.getD_some]
    exact ⟨h2.1, by omega, by simpa using h1⟩

section
variable (cs : List Cl) (e a b x0 : Int)
def viaJ (j : Nat) : Int := if j % 2 = 0 then a else b
def innJ (j : Nat) (c : Cl) : Int := if j % 2 = 0 then c.o / e else c.i / e
def outJ (j : Nat) (c : Cl) : Int := if j % 2 = 0 then c.i / e else c.o / e
def stepJ (j : Nat) (x : Int) : Option Nat := cs.findIdx? fun c => decide (c.v = viaJ a b j) && decide (innJ e j c = x)
def nodeJ : Nat → Option Int
  | 0 => some x0
  | j + 1 => (nodeJ j).bind fun x => (stepJ cs e a b j x).bind fun k => (cs[k]?).map (outJ e j)
/-- The place of the j-th call of the chain. -/
def chainJ (j : Nat) : Option Nat := (nodeJ cs e a b x0 j).bind (stepJ cs e a b j)
def flipC (c : Cl) : Cl := ⟨c.i, c.o, a + b - c.v⟩
/-- The calls, the first t of the chain moved. -/
def flips : Nat → List Cl
  | 0 => cs
  | t + 1 => match chainJ cs e a b x0 t with
    | none => flips t
    | some k => (flips t).modify k (flipC a b)
end
theorem inn_succ (e : Int) (j : Nat) (c : Cl) : innJ e (j + 1) c = outJ e j c := by
  unfold innJ outJ
  rcases (by omega : j % 2 = 0 ∨ j % 2 = 1) with h | h
  · rw [if_neg (by omega), if_pos h]
  · rw [if_pos (by omega), if_neg (by omega)]
theorem via_succ (a b : Int) (j : Nat) : viaJ a b (j + 1) = a + b - viaJ a b j := by
  unfold viaJ
  rcases (by omega : j % 2 = 0 ∨ j % 2 = 1) with h | h
  · rw [if_neg (by omega), if_pos h]; omega
  · rw [if_pos (by omega), if_neg (by omega)]; omega
/-- What the chain leans on: valid calls, two different middle switches, of which the second one is not used to the outer switch of the new call's output. -/
structure Chn (o e m a b x0 : Int) (cs : List Cl) : Prop where
  ok : CallsOk o e m cs
  ne : a ≠ b
  nob : ∀ c ∈ cs, c.o / e = x0 → c.v ≠ b
section
variable {o e m a b x0 : Int} {cs : List Cl}
theorem Chn.uniq_inn (h : Chn o e m a b x0 cs) {j k l : Nat} {c d : Cl} (hc : cs[k]? = some c) (hd : cs[l]? = some d) (hv : c.v = d.v) (hi : innJ e j c = innJ e j d) : k = l := by
  by_cases hne : k = l
  · exact hne
  · have := (h.ok.compat hc hd hne).2.2 hv
    unfold innJ at hi
    split at hi
    · exact absurd hi this.2
    · exact absurd hi this.1
theorem step_iff (h : Chn o e m a b x0 cs) {j k : Nat} {x : Int} : stepJ cs e a b j x = some k ↔ ∃ c, cs[k]? = some c ∧ c.v = viaJ a b j ∧ innJ e j c = x := by
  unfold stepJ
  rw [List.findIdx?_eq_some_iff_getElem]
  constructor
  · rintro ⟨hk, hp, _⟩
    simp at hp
    exact ⟨cs[k], List.getElem?_eq_getElem hk, hp.1, hp.2⟩
  · rintro ⟨c, hc, hv, hi⟩
    obtain ⟨hk, rfl⟩ := List.getElem?_eq_some_iff.1 hc
    refine ⟨hk, by simp [hv, hi], fun l hl => ?_⟩
    have hl' : l < cs.length := by omega
    simp only [Bool.and_eq_true, decide_eq_true_eq]
    rintro ⟨hv', hi'⟩
    have := h.uniq_inn (j := j) hc (List.getElem?_eq_getElem hl') (by rw [hv, hv']) (by rw [hi, hi'])
    omega
theorem chain_iff (h : Chn o e m a b x0 cs) {j k : Nat} : chainJ cs e a b x0 j = some k ↔ ∃ x c, nodeJ cs e a b x0 j = some x ∧ cs[k]? = some c ∧ c.v = viaJ a b j ∧ innJ e j c = x := by
  unfold chainJ
  cases hn : nodeJ cs e a b x0 j with
  | none => simp
  | some x =>
    simp only [Option.bind_some]
    rw [step_iff h]
    exact ⟨fun ⟨c, h1⟩ => ⟨x, c, rfl, h1⟩, fun ⟨y, c, h1, h2⟩ => by injection h1 with h1; subst h1; exact ⟨c, h2⟩⟩
theorem node_succ_iff (h : Chn o e m a b x0 cs) {j : Nat} {y : Int} : nodeJ cs e a b x0 (j + 1) = some y ↔ ∃ k c, chainJ cs e a b x0 j = some k ∧ cs[k]? = some c ∧ outJ e j c = y := by
  show ((nodeJ cs e a b x0 j).bind _) = some y ↔ _
  unfold chainJ
  cases hn : nodeJ cs e a b x0 j with
  | none => simp
  | some x =>
    simp only [Option.bind_some]
    cases hs : stepJ cs e a b j x with
    | none => simp
    | some k =>
      simp only [Option.bind_some]
      constructor
      · intro hm
        obtain ⟨c, hc, hy⟩ := Option.map_eq_some_iff.1 hm
        exact ⟨k, c, rfl, hc, hy⟩
      · rintro ⟨k', c, hk, hc, hy⟩
        injection hk with hk; subst hk
        rw [hc, Option.map_some, hy]
theorem chain_at (h : Chn o e m a b x0 cs) {j k : Nat} (hk : chainJ cs e a b x0 j = some k) : ∃ c, cs[k]? = some c ∧ c.v = viaJ a b j ∧ nodeJ cs e a b x0 j = some (innJ e j c) := by
  obtain ⟨x, c, hn, hc, hv, hi⟩ := (chain_iff h).1 hk
  exact ⟨c, hc, hv, by rw [hn, hi]⟩
theorem chain_prev (h : Chn o e m a b x0 cs) {j k : Nat} (hk : chainJ cs e a b x0 (j + 1) = some k) : ∃ l, chainJ cs e a b x0 j = some l := by
  obtain ⟨c, hc, hv, hn⟩ := chain_at h hk
  obtain ⟨l, d, hl, _⟩ := (node_succ_iff h).1 hn
  exact ⟨l, hl⟩
theorem chain_none (h : Chn o e m a b x0 cs) {j : Nat} (hj : chainJ cs e a b x0 j = none) {s : Nat} (hs : j ≤ s) : chainJ cs e a b x0 s = none := by
  induction s with
  | zero => obtain rfl : j = 0 := by omega
            exact hj
  | succ s ih =>
    rcases (by omega : j = s + 1 ∨ j ≤ s) with rfl | hl
    · exact hj
    · cases hc : chainJ cs e a b x0 (s + 1) with
      | none => rfl
      | some k => obtain ⟨l, hl'⟩ := chain_prev h hc; rw [ih hl] at hl'; cases hl'
theorem via_parity (hne : a ≠ b) {j j' : Nat} (h : viaJ a b j = viaJ a b j') : j % 2 = j' % 2 := by
  unfold viaJ at h
  split at h <;> split at h
  · omega
  · exact absurd h hne
  · exact absurd h.symm hne
  · omega
theorem inn_parity (e : Int) (c : Cl) {j j' : Nat} (h : j % 2 = j' % 2) : innJ e j c = innJ e j' c := by unfold innJ; rw [h]
theorem chain_inj_lt (h : Chn o e m a b x0 cs) (j : Nat) : ∀ j' k, j < j' → chainJ cs e a b x0 j = some k → chainJ cs e a b x0 j' = some k → False := by
  induction j with
  | zero =>
    intro j' k hlt h1 h2
    obtain ⟨c, hc, hv, hn⟩ := chain_at h h1
    obtain ⟨c', hc', hv', hn'⟩ := chain_at h h2
    rw [hc] at hc'; injection hc' with hc'; subst hc'
    have hp := via_parity h.ne (hv.symm.trans hv')
    obtain ⟨s, rfl⟩ : ∃ s, j' = s + 1 := ⟨j' - 1, by omega⟩
    obtain ⟨l, d, hl, hd, hy⟩ := (node_succ_iff h).1 hn'
    have hx : innJ e (s + 1) c = x0 := by
      rw [← inn_parity e c hp]
      simp [nodeJ] at hn
      exact hn.symm
    obtain ⟨d', hd', hvd, _⟩ := chain_at h hl
    rw [hd] at hd'; injection hd' with hd'; subst hd'
    have hs : ¬ s % 2 = 0 := by omega
    have e1 : d.v = b := by rw [hvd]; unfold viaJ; rw [if_neg hs]
    have e2 : d.o / e = x0 := by rw [← hx, ← hy]; unfold outJ; rw [if_neg hs]
    exact h.nob d (List.mem_of_getElem? hd) e2 e1
  | succ j ih =>
    intro j' k hlt h1 h2
    obtain ⟨c, hc, hv, hn⟩ := chain_at h h1
    obtain ⟨c', hc', hv', hn'⟩ := chain_at h h2
    rw [hc] at hc'; injection hc' with hc'; subst hc'
    have hp := via_parity h.ne (hv.symm.trans hv')
    obtain ⟨s, rfl⟩ : ∃ s, j' = s + 1 := ⟨j' - 1, by omega⟩
    obtain ⟨l, d, hl, hd, hy⟩ := (node_succ_iff h).1 hn
    obtain ⟨l', d', hl', hd', hy'⟩ := (node_succ_iff h).1 hn'
    obtain ⟨_, hq, hvd, _⟩ := chain_at h hl
    rw [hd] at hq; injection hq with hq; subst hq
    obtain ⟨_, hq, hvd', _⟩ := chain_at h hl'
    rw [hd'] at hq; injection hq with hq; subst hq
    have hjs : j % 2 = s % 2 := by omega
    have hvv : d.v = d'.v := by rw [hvd, hvd']; unfold viaJ; rw [hjs]
    have hii : innJ e (j + 1) d = innJ e (j + 1) d' := by
      have e1 : innJ e (j + 1) d = innJ e (j + 1) c := (inn_succ e j d).trans hy
      have e2 : innJ e (s + 1) d' = innJ e (s + 1) c := (inn_succ e s d').trans hy'
      rw [e1, inn_parity e d' (show (j + 1) % 2 = (s + 1) % 2 by omega), e2]
      exact inn_parity e c hp
    have hll := h.uniq_inn hd hd' hvv hii
    subst hll
    exact ih s l (by omega) hl hl'
theorem chain_inj (h : Chn o e m a b x0 cs) {j j' k : Nat} (h1 : chainJ cs e a b x0 j = some k) (h2 : chainJ cs e a b x0 j' = some k) : j = j' := by
  rcases Nat.lt_trichotomy j j' with hl | hl | hl
  · exact (chain_inj_lt h j j' k hl h1 h2).elim
  · exact hl
  · exact (chain_inj_lt h j' j k hl h2 h1).elim
theorem chain_lt (h : Chn o e m a b x0 cs) {j k : Nat} (hk : chainJ cs e a b x0 j = some k) : j < cs.length := by
  -- the places of the chain up to j are different places of the list
  have hall : ∀ s, s ≤ j → ∃ l, chainJ cs e a b x0 s = some l := by
    intro s hs
    cases hc : chainJ cs e a b x0 s with
    | some l => exact ⟨l, rfl⟩
    | none => rw [chain_none h hc hs] at hk; cases hk
  have hn : ((List.range (j + 1)).map fun s => (chainJ cs e a b x0 s).getD 0).Nodup := by
    unfold List.Nodup
    rw [List.pairwise_map]
    refine List.Pairwise.imp_of_mem ?_ (List.nodup_range (n := j + 1))
    intro s t hs ht hne heq
    rw [List.mem_range] at hs ht
    obtain ⟨l, hl⟩ := hall s (by omega)
    obtain ⟨l', hl'⟩ := hall t (by omega)
    rw [hl, hl'] at heq
    simp at heq
    subst heq
    exact hne (chain_inj h hl hl')
  have := nodup_len_nat (n := cs.length) hn (fun x hx => by
    obtain ⟨s, hs, rfl⟩ := List.mem_map.1 hx
    rw [List.mem_range] at hs
    obtain ⟨l, hl⟩ := hall s (by omega)
    obtain ⟨c, hc, _⟩ := chain_at h hl
    rw [hl]; exact (List.getElem?_eq_some_iff.1 hc).1)
  simp at this
  omega
/-- The call at a place is among the first t of the chain. -/
def Chosen (cs : List Cl) (e a b x0 : Int) (t k : Nat) : Prop := ∃ j, j < t ∧ chainJ cs e a b x0 j = some k
theorem flips_both (h : Chn o e m a b x0 cs) (t : Nat) : ∀ k, (Chosen cs e a b x0 t k → (flips cs e a b x0 t)[k]? = (cs[k]?).map (flipC a b)) ∧ (¬ Chosen cs e a b x0 t k → (flips cs e a b x0 t)[k]? = cs[k]?) := by
  induction t with
  | zero => intro k; exact ⟨fun ⟨j, hj, _⟩ => absurd hj (Nat.not_lt_zero _), fun _ => rfl⟩
  | succ t ih =>
    intro k
    show (_ → (match chainJ cs e a b x0 t with | none => flips cs e a b x0 t | some k => (flips cs e a b x0 t).modify k (flipC a b))[k]? = _) ∧ (_ → (match chainJ cs e a b x0 t with | none => flips cs e a b x0 t | some k => (flips cs e a b x0 t).modify k (flipC a b))[k]? = _)
    cases hc : chainJ cs e a b x0 t with
    | none =>
      have heq : Chosen cs e a b x0 (t + 1) k ↔ Chosen cs e a b x0 t k := by
        constructor
        · rintro ⟨j, hj, hk⟩
          rcases (by omega : j < t ∨ j = t) with hl | rfl
          · exact ⟨j, hl, hk⟩
          · rw [hc] at hk; cases hk
        · rintro ⟨j, hj, hk⟩; exact ⟨j, by omega, hk⟩
      rw [heq]; exact ih k
    | some l =>
      by_cases hkl : l = k
      · subst hkl
        have hno : ¬ Chosen cs e a b x0 t l := fun ⟨j, hj, hk⟩ => by have := chain_inj h hk hc; omega
        refine ⟨fun _ => ?_, fun hn => absurd ⟨t, by omega, hc⟩ hn⟩
        simp only [List.getElem?_modify_eq, (ih l).2 hno]
        rfl
      · have heq : Chosen cs e a b x0 (t + 1) k ↔ Chosen cs e a b x0 t k := by
          constructor
          · rintro ⟨j, hj, hk⟩
            rcases (by omega : j < t ∨ j = t) with hl | rfl
            · exact ⟨j, hl, hk⟩
            · rw [hc] at hk; injection hk with hk; exact absurd hk hkl
          · rintro ⟨j, hj, hk⟩; exact ⟨j, by omega, hk⟩
        rw [heq]
        simp only [List.getElem?_modify_ne _ _ hkl]
        exact ih k
theorem flips_len (t : Nat) : (flips cs e a b x0 t).length = cs.length := by
  induction t with
  | zero => rfl
  | succ t ih =>
    show (match chainJ cs e a b x0 t with | none => flips cs e a b x0 t | some k => (flips cs e a b x0 t).modify k (flipC a b)).length = _
    cases chainJ cs e a b x0 t with
    | none => exact ih
    | some k => simp [ih]
theorem flips_none {t : Nat} (hc : chainJ cs e a b x0 t = none) : flips cs e a b x0 (t + 1) = flips cs e a b x0 t := by
  show (match chainJ cs e a b x0 t with | none => flips cs e a b x0 t | some k => (flips cs e a b x0 t).modify k (flipC a b)) = _
  rw [hc]
theorem flips_some {t k : Nat} (hc : chainJ cs e a b x0 t = some k) : flips cs e a b x0 (t + 1) = (flips cs e a b x0 t).modify k (flipC a b) := by
  show (match chainJ cs e a b x0 t with | none => flips cs e a b x0 t | some k => (flips cs e a b x0 t).modify k (flipC a b)) = _
  rw [hc]
theorem flips_end (h : Chn o e m a b x0 cs) {t : Nat} (hc : chainJ cs e a b x0 t = none) {s : Nat} (hs : t ≤ s) : flips cs e a b x0 s = flips cs e a b x0 t := by
  induction s with
  | zero => obtain rfl : t = 0 := by omega
            rfl
  | succ s ih =>
    rcases (by omega : t = s + 1 ∨ t ≤ s) with rfl | hl
    · rfl
    · rw [flips_none (chain_none h hc hl), ih hl]
end
end Go.Proofs.Ytcickfahpcmcdaa
