/- The plain mathematics of the loop network: what it realises, and how it is set. No condition. -/
import Derived.Test.Ytiahpaakkijejaa3s
namespace Go.Proofs.Ytiahpaakkijejaa
set_option linter.unusedSimpArgs false
set_option linter.unusedVariables false
/-- How many switches the network of 2 ^ (d + 1) lines has. -/
def manyD : Nat → Nat
  | 0 => 1
  | d + 1 => 2 ^ (d + 2) + 2 * manyD d
def bitN (b : Bool) : Nat := if b then 1 else 0
theorem bitN_lt (b : Bool) : bitN b < 2 := by cases b <;> simp [bitN]
/-- The output of the input k, the switches set by f. -/
def runF : Nat → (Nat → Bool) → Nat → Nat
  | 0, f, k => if f 0 then 1 - k else k
  | d + 1, f, k =>
    if k % 2 = bitN (f (k / 2)) then
      2 * runF d (fun x => f (2 ^ (d + 1) + x)) (k / 2) + bitN (f (2 ^ (d + 1) + 2 * manyD d + runF d (fun x => f (2 ^ (d + 1) + x)) (k / 2)))
    else 2 * runF d (fun x => f (2 ^ (d + 1) + manyD d + x)) (k / 2) + 1 - bitN (f (2 ^ (d + 1) + 2 * manyD d + runF d (fun x => f (2 ^ (d + 1) + manyD d + x)) (k / 2)))
theorem runF_succ (d : Nat) (f : Nat → Bool) (k : Nat) : runF (d + 1) f k =
    if k % 2 = bitN (f (k / 2)) then
      2 * runF d (fun x => f (2 ^ (d + 1) + x)) (k / 2) + bitN (f (2 ^ (d + 1) + 2 * manyD d + runF d (fun x => f (2 ^ (d + 1) + x)) (k / 2)))
    else 2 * runF d (fun x => f (2 ^ (d + 1) + manyD d + x)) (k / 2) + 1 - bitN (f (2 ^ (d + 1) + 2 * manyD d + runF d (fun x => f (2 ^ (d + 1) + manyD d + x)) (k / 2))) := rfl
theorem half_lt {d k : Nat} (h : k < 2 ^ (d + 1 + 1)) : k / 2 < 2 ^ (d + 1) := by rw [Nat.pow_succ] at h; omega
theorem runF_lt (d : Nat) : ∀ (f : Nat → Bool) (k : Nat), k < 2 ^ (d + 1) → runF d f k < 2 ^ (d + 1) := by
  induction d with
  | zero => intro f k hk; unfold runF; split <;> simp at hk ⊢ <;> omega
  | succ d ih =>
    intro f k hk
    have hk' := half_lt hk
    have hp2 : 2 ^ (d + 1 + 1) = 2 ^ (d + 1) * 2 := Nat.pow_succ 2 (d + 1)
    rw [runF_succ, hp2]
    split
    · have h1 := ih (fun x => f (2 ^ (d + 1) + x)) (k / 2) hk'
      have h2 := bitN_lt (f (2 ^ (d + 1) + 2 * manyD d + runF d (fun x => f (2 ^ (d + 1) + x)) (k / 2)))
      omega
    · have h1 := ih (fun x => f (2 ^ (d + 1) + manyD d + x)) (k / 2) hk'
      omega
theorem runF_inj (d : Nat) : ∀ (f : Nat → Bool) (k l : Nat), k < 2 ^ (d + 1) → l < 2 ^ (d + 1) → runF d f k = runF d f l → k = l := by
  induction d with
  | zero => intro f k l hk hl h; unfold runF at h; simp at hk hl; split at h <;> omega
  | succ d ih =>
    intro f k l hk hl h
    have hk' := half_lt hk
    have hl' := half_lt hl
    rw [runF_succ, runF_succ] at h
    have iu := ih (fun x => f (2 ^ (d + 1) + x)) (k / 2) (l / 2) hk' hl'
    have il := ih (fun x => f (2 ^ (d + 1) + manyD d + x)) (k / 2) (l / 2) hk' hl'
    generalize runF d (fun x => f (2 ^ (d + 1) + x)) (k / 2) = uk at h iu
    generalize runF d (fun x => f (2 ^ (d + 1) + x)) (l / 2) = ul at h iu
    generalize runF d (fun x => f (2 ^ (d + 1) + manyD d + x)) (k / 2) = wk at h il
    generalize runF d (fun x => f (2 ^ (d + 1) + manyD d + x)) (l / 2) = wl at h il
    have b0 := bitN_lt (f (k / 2))
    have b0' := bitN_lt (f (l / 2))
    have b1 := bitN_lt (f (2 ^ (d + 1) + 2 * manyD d + uk))
    have b2 := bitN_lt (f (2 ^ (d + 1) + 2 * manyD d + ul))
    have b3 := bitN_lt (f (2 ^ (d + 1) + 2 * manyD d + wk))
    have b4 := bitN_lt (f (2 ^ (d + 1) + 2 * manyD d + wl))
    by_cases c1 : k % 2 = bitN (f (k / 2)) <;> by_cases c2 : l % 2 = bitN (f (l / 2))
    · rw [if_pos c1, if_pos c2] at h
      have e : uk = ul := by omega
      have e2 := iu e
      rw [e2] at c1
      omega
    · rw [if_pos c1, if_neg c2] at h
      have e : uk = wl := by omega
      subst e
      omega
    · rw [if_neg c1, if_pos c2] at h
      have e : wk = ul := by omega
      subst e
      omega
    · rw [if_neg c1, if_neg c2] at h
      have e : wk = wl := by omega
      have e2 := il e
      rw [e2] at c1
      omega
theorem runF_congr (d : Nat) : ∀ (f g : Nat → Bool) (k : Nat), k < 2 ^ (d + 1) → (∀ x, x < manyD d → f x = g x) → runF d f k = runF d g k := by
  induction d with
  | zero => intro f g k hk h; unfold runF; rw [h 0 (by simp [manyD])]
  | succ d ih =>
    intro f g k hk h
    have hk' := half_lt hk
    have hm : manyD (d + 1) = 2 ^ (d + 1) + 2 ^ (d + 1) + 2 * manyD d := by show 2 ^ (d + 2) + _ = _; rw [Nat.pow_succ]; omega
    have e1 := ih (fun x => f (2 ^ (d + 1) + x)) (fun x => g (2 ^ (d + 1) + x)) (k / 2) hk' (fun x hx => h _ (by omega))
    have e2 := ih (fun x => f (2 ^ (d + 1) + manyD d + x)) (fun x => g (2 ^ (d + 1) + manyD d + x)) (k / 2) hk' (fun x hx => h _ (by omega))
    have l1 := runF_lt d (fun x => g (2 ^ (d + 1) + x)) (k / 2) hk'
    have l2 := runF_lt d (fun x => g (2 ^ (d + 1) + manyD d + x)) (k / 2) hk'
    rw [runF_succ, runF_succ, e1, e2, h (k / 2) (by omega), h (2 ^ (d + 1) + 2 * manyD d + runF d (fun x => g (2 ^ (d + 1) + x)) (k / 2)) (by omega), h (2 ^ (d + 1) + 2 * manyD d + runF d (fun x => g (2 ^ (d + 1) + manyD d + x)) (k / 2)) (by omega)]
theorem runF_meets (d : Nat) (f : Nat → Bool) {y : Nat} (hy : y < 2 ^ (d + 1)) : ∃ k, k < 2 ^ (d + 1) ∧ runF d f k = y :=
  meets (fun i hi => runF_lt d f i hi) (fun i j hi hj he => runF_inj d f i j hi hj he) hy
def flipF (f : Nat → Bool) (k x : Nat) : Bool := if x = k then !f x else f x
theorem flip_same (f : Nat → Bool) (k : Nat) : flipF f k k = !f k := by simp [flipF]
theorem flip_other (f : Nat → Bool) {k x : Nat} (h : x ≠ k) : flipF f k x = f x := by simp [flipF, h]
theorem flip_shift (f : Nat → Bool) (a k : Nat) : (fun x => flipF f (a + k) (a + x)) = flipF (fun x => f (a + x)) k := by
  funext x; unfold flipF
  by_cases h : x = k
  · subst h; simp
  · rw [if_neg (by omega), if_neg h]
theorem flip_shift_other (f : Nat → Bool) (d a k : Nat) (h : ∀ x, x < manyD d → a + x ≠ k) {j : Nat} (hj : j < 2 ^ (d + 1)) : runF d (fun x => flipF f k (a + x)) j = runF d (fun x => f (a + x)) j :=
  runF_congr d _ _ j hj (fun x hx => flip_other f (h x hx))
/-- One switch set the other way makes another permutation. -/
theorem runF_flip (d : Nat) : ∀ (f : Nat → Bool) (k : Nat), k < manyD d → ∃ i, i < 2 ^ (d + 1) ∧ runF d (flipF f k) i ≠ runF d f i := by
  induction d with
  | zero =>
    intro f k hk
    obtain rfl : k = 0 := by simp [manyD] at hk; omega
    refine ⟨0, by simp, ?_⟩
    unfold runF
    rw [flip_same]
    cases f 0 <;> simp
  | succ d ih =>
    intro f k hk
    have hm : manyD (d + 1) = 2 ^ (d + 1) + 2 ^ (d + 1) + 2 * manyD d := by show 2 ^ (d + 2) + _ = _; rw [Nat.pow_succ]; omega
    rw [hm] at hk
    have hpos : 0 < 2 ^ (d + 1) := Nat.pow_pos (by omega)
    have hp2 : 2 ^ (d + 1 + 1) = 2 ^ (d + 1) * 2 := Nat.pow_succ 2 (d + 1)
    rcases (by omega : k < 2 ^ (d + 1) ∨ (2 ^ (d + 1) ≤ k ∧ k < 2 ^ (d + 1) + manyD d) ∨ (2 ^ (d + 1) + manyD d ≤ k ∧ k < 2 ^ (d + 1) + 2 * manyD d) ∨ 2 ^ (d + 1) + 2 * manyD d ≤ k) with h | h | h | h
    · -- the first column
      refine ⟨2 * k, by omega, ?_⟩
      rw [runF_succ, runF_succ]
      have e0 : 2 * k / 2 = k := by omega
      rw [e0, flip_shift_other f d (2 ^ (d + 1)) k (fun x _ => by omega) h, flip_shift_other f d (2 ^ (d + 1) + manyD d) k (fun x _ => by omega) h, flip_same]
      rw [flip_other f (x := 2 ^ (d + 1) + 2 * manyD d + runF d (fun x => f (2 ^ (d + 1) + x)) k) (by omega), flip_other f (x := 2 ^ (d + 1) + 2 * manyD d + runF d (fun x => f (2 ^ (d + 1) + manyD d + x)) k) (by omega)]
      generalize runF d (fun x => f (2 ^ (d + 1) + x)) k = u
      generalize runF d (fun x => f (2 ^ (d + 1) + manyD d + x)) k = l
      have b1 := bitN_lt (f (2 ^ (d + 1) + 2 * manyD d + u))
      have b2 := bitN_lt (f (2 ^ (d + 1) + 2 * manyD d + l))
      have e1 : 2 * k % 2 = 0 := by omega
      rw [e1]
      by_cases hul : u = l
      · subst hul
        cases f k <;> simp [bitN] <;> split <;> simp_all <;> omega
      · cases f k <;> simp [bitN] <;> split <;> split <;> omega
    · -- the upper network
      obtain ⟨j, rfl⟩ : ∃ j, k = 2 ^ (d + 1) + j := ⟨k - 2 ^ (d + 1), by omega⟩
      obtain ⟨i, hi, hne⟩ := ih (fun x => f (2 ^ (d + 1) + x)) j (by omega)
      refine ⟨2 * i + bitN (f i), by have := bitN_lt (f i); omega, ?_⟩
      have b := bitN_lt (f i)
      have e0 : (2 * i + bitN (f i)) / 2 = i := by omega
      have e1 : (2 * i + bitN (f i)) % 2 = bitN (f i) := by omega
      rw [runF_succ, runF_succ, e0, e1, flip_other f (x := i) (by omega), if_pos rfl, if_pos rfl, flip_shift]
      have b1 := bitN_lt (flipF f (2 ^ (d + 1) + j) (2 ^ (d + 1) + 2 * manyD d + runF d (flipF (fun x => f (2 ^ (d + 1) + x)) j) i))
      have b2 := bitN_lt (f (2 ^ (d + 1) + 2 * manyD d + runF d (fun x => f (2 ^ (d + 1) + x)) i))
      omega
    · -- the lower network
      obtain ⟨j, rfl⟩ : ∃ j, k = 2 ^ (d + 1) + manyD d + j := ⟨k - (2 ^ (d + 1) + manyD d), by omega⟩
      obtain ⟨i, hi, hne⟩ := ih (fun x => f (2 ^ (d + 1) + manyD d + x)) j (by omega)
      refine ⟨2 * i + (1 - bitN (f i)), by have := bitN_lt (f i); omega, ?_⟩
      have b := bitN_lt (f i)
      have e0 : (2 * i + (1 - bitN (f i))) / 2 = i := by omega
      have e1 : (2 * i + (1 - bitN (f i))) % 2 ≠ bitN (f i) := by omega
      rw [runF_succ, runF_succ, e0, flip_other f (x := i) (by omega), if_neg e1, if_neg e1, flip_shift]
      have b1 := bitN_lt (flipF f (2 ^ (d + 1) + manyD d + j) (2 ^ (d + 1) + 2 * manyD d + runF d (flipF (fun x => f (2 ^ (d + 1) + manyD d + x)) j) i))
      have b2 := bitN_lt (f (2 ^ (d + 1) + 2 * manyD d + runF d (fun x => f (2 ^ (d + 1) + manyD d + x)) i))
      omega
    · -- the last column
      obtain ⟨y, rfl⟩ : ∃ y, k = 2 ^ (d + 1) + 2 * manyD d + y := ⟨k - (2 ^ (d + 1) + 2 * manyD d), by omega⟩
      obtain ⟨i, hi, he⟩ := runF_meets d (fun x => f (2 ^ (d + 1) + x)) (y := y) (by omega)
      have b := bitN_lt (f i)
      have e0 : (2 * i + bitN (f i)) / 2 = i := by omega
      have e1 : (2 * i + bitN (f i)) % 2 = bitN (f i) := by omega
      refine ⟨2 * i + bitN (f i), by omega, ?_⟩
      rw [runF_succ, runF_succ, e0, e1, flip_other f (x := i) (by omega), if_pos rfl, if_pos rfl, flip_shift_other f d (2 ^ (d + 1)) _ (fun x _ => by omega) hi, he, flip_same]
      cases f (2 ^ (d + 1) + 2 * manyD d + y) <;> simp [bitN]

/-- The settings of the switches for p, by levels: low tells who goes through the lower network. -/
def upP (low : Nat → Bool) (p : Nat → Nat) (k : Nat) : Nat := if low (2 * k) then p (2 * k + 1) / 2 else p (2 * k) / 2
def loP (low : Nat → Bool) (p : Nat → Nat) (k : Nat) : Nat := if low (2 * k) then p (2 * k) / 2 else p (2 * k + 1) / 2
/-- A permutation of the numbers below n. -/
def IsP (n : Nat) (p : Nat → Nat) : Prop := (∀ i, i < n → p i < n) ∧ ∀ i j, i < n → j < n → p i = p j → i = j
/-- Each switch of the first and of the last column has one line in each network. -/
def Proper (n : Nat) (p : Nat → Nat) (low : Nat → Bool) : Prop := (∀ k, 2 * k + 1 < n → low (2 * k + 1) = !low (2 * k)) ∧ ∀ i j, i < n → j < n → i ≠ j → p i / 2 = p j / 2 → low j = !low i
theorem up_isP {H : Nat} {p : Nat → Nat} {low : Nat → Bool} (h : IsP (H * 2) p) (hl : Proper (H * 2) p low) : IsP H (upP low p) := by
  constructor
  · intro i hi
    have a := h.1 (2 * i) (by omega)
    have b := h.1 (2 * i + 1) (by omega)
    unfold upP; split <;> omega
  · intro i j hi hj he
    have ai := hl.1 i (by omega)
    have aj := hl.1 j (by omega)
    unfold upP at he
    have key : ∀ x y, x < H * 2 → y < H * 2 → low x = false → low y = false → p x / 2 = p y / 2 → x = y := by
      intro x y hx hy h1 h2 h3
      by_cases hxy : x = y
      · exact hxy
      · have := hl.2 x y hx hy hxy h3
        rw [h1, h2] at this; cases this
    cases hi0 : low (2 * i) <;> cases hj0 : low (2 * j) <;> simp [hi0, hj0] at he ai aj
    · have := key _ _ (by omega) (by omega) hi0 hj0 he; omega
    · have := key _ _ (by omega) (by omega) hi0 aj he; omega
    · have := key _ _ (by omega) (by omega) ai hj0 he; omega
    · have := key _ _ (by omega) (by omega) ai aj he; omega
theorem lo_isP {H : Nat} {p : Nat → Nat} {low : Nat → Bool} (h : IsP (H * 2) p) (hl : Proper (H * 2) p low) : IsP H (loP low p) := by
  constructor
  · intro i hi
    have a := h.1 (2 * i) (by omega)
    have b := h.1 (2 * i + 1) (by omega)
    unfold loP; split <;> omega
  · intro i j hi hj he
    have ai := hl.1 i (by omega)
    have aj := hl.1 j (by omega)
    unfold loP at he
    have key : ∀ x y, x < H * 2 → y < H * 2 → low x = true → low y = true → p x / 2 = p y / 2 → x = y := by
      intro x y hx hy h1 h2 h3
      by_cases hxy : x = y
      · exact hxy
      · have := hl.2 x y hx hy hxy h3
        rw [h1, h2] at this; cases this
    cases hi0 : low (2 * i) <;> cases hj0 : low (2 * j) <;> simp [hi0, hj0] at he ai aj
    · have := key _ _ (by omega) (by omega) ai aj he; omega
    · have := key _ _ (by omega) (by omega) ai hj0 he; omega
    · have := key _ _ (by omega) (by omega) hi0 aj he; omega
    · have := key _ _ (by omega) (by omega) hi0 hj0 he; omega
/-- What the settings of a level must be. -/
structure SetOk (d : Nat) (p : Nat → Nat) (low : Nat → Bool) (f : Nat → Bool) : Prop where
  fst : ∀ k, k < 2 ^ (d + 1) → f k = low (2 * k)
  up : ∀ k, k < 2 ^ (d + 1) → runF d (fun x => f (2 ^ (d + 1) + x)) k = upP low p k
  lo : ∀ k, k < 2 ^ (d + 1) → runF d (fun x => f (2 ^ (d + 1) + manyD d + x)) k = loP low p k
  lst : ∀ i, i < 2 ^ (d + 1) * 2 → p i % 2 = 0 → f (2 ^ (d + 1) + 2 * manyD d + p i / 2) = low i
theorem set_loop {d : Nat} {p : Nat → Nat} {low f : Nat → Bool} (h : IsP (2 ^ (d + 1) * 2) p) (hl : Proper (2 ^ (d + 1) * 2) p low) (hs : SetOk d p low f) : ∀ i, i < 2 ^ (d + 1) * 2 → runF (d + 1) f i = p i := by
  intro i hi
  have hlast : ∀ x, x < 2 ^ (d + 1) * 2 → f (2 ^ (d + 1) + 2 * manyD d + p x / 2) = if p x % 2 = 0 then low x else !low x := by
    intro x hx
    split
    · exact hs.lst x hx (by assumption)
    · have hpx := h.1 x hx
      obtain ⟨y, hy, hye⟩ := meets h.1 h.2 (y := p x - 1) (by omega)
      have hne : x ≠ y := by rintro rfl; omega
      have e : p y / 2 = p x / 2 := by omega
      have := hs.lst y hy (by omega)
      rw [e] at this
      rw [this, hl.2 x y hx hy hne e.symm]
  have hk : i / 2 < 2 ^ (d + 1) := by omega
  have hp := hl.1 (i / 2) (by omega)
  have hii : i = 2 * (i / 2) ∨ i = 2 * (i / 2) + 1 := by omega
  rw [runF_succ, hs.fst _ hk, hs.up _ hk, hs.lo _ hk]
  have hi' := hlast i hi
  unfold upP loP
  have hm2 : p i % 2 = 0 ∨ p i % 2 = 1 := by omega
  generalize hj : i / 2 = j at *
  rcases hii with rfl | rfl
  · cases h0 : low (2 * j) <;> simp only [h0, bitN] at * <;> simp at * <;> rw [hi'] <;> rcases hm2 with h2 | h2 <;> simp [h2] <;> omega
  · cases h0 : low (2 * j) <;> simp only [h0, bitN] at * <;> simp [hp] at * <;> rw [hi'] <;> rcases hm2 with h2 | h2 <;> simp [h2] <;> omega
end Go.Proofs.Ytiahpaakkijejaa
