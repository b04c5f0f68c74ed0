/- What the proofs' frames share: how an argument that came in is opened for the walk (a slice of numbers reads as a list, a shape as three numbers). No condition. -/
import Derived.Test.YtplalcciodbddaaCom
import Derived.ProofKit
import Derived.OpenShut
import Derived.ShutString
import Derived.ChangeOld
import Derived.Below
import Derived.Lib.SmallJoins
namespace Go.Proofs.Ytplalcciodbddaa
open Go.ChangeShapes Go.WideShapes Go.ChangeAt Go.RowKit
set_option linter.unusedSimpArgs false
set_option linter.unusedVariables false
theorem own : ownKnob Try.prog.godebug = none := by kernel_rfl
theorem laidOut : laidOutB Try.prog = true := by kernel_rfl
section
variable {H : Type} {enc : TypeId × Value → H}
theorem rdl_of_trod {P : Program} {k : IntKind} {t e : TypeId} {W : World} {a : Option Addr} {n c : Nat} {d : DataW H} {p : List MemPlace} (ht : P.underlying t = some (.slice e)) (he : P.underlying e = some (.int k)) (hC : P.cellsOf e = 1)
    (h : DataW.Trod enc P W 0 (fun _ => true) true t (.slice a n c) d p) : ∃ zs, RdL (Value.int k) W a n zs ∧ n ≤ c ∧ ∀ z ∈ zs, (Lit.int k z).wf = true := by
  obtain ⟨fuel, hf⟩ := h
  rcases open_ints ht he hC hf with ⟨hcs, _⟩ | ⟨x, l, cc, zs, hcs, _, hl, hm, hz, _, hcell, hwz⟩
  · simp [Value.cells] at hcs
    obtain ⟨rfl, rfl, rfl⟩ := hcs
    exact ⟨[], RdL.nil 0, Nat.le_refl _, by simp⟩
  · simp [Value.cells] at hcs
    obtain ⟨rfl, rfl, rfl⟩ := hcs
    simp at hz
    refine ⟨zs.take n, ⟨by simp; omega, fun hn => ?_⟩, hl, fun z hz' => hwz z (List.mem_of_mem_take hz')⟩
    obtain ⟨b, off, spot⟩ := x
    have h0 := hcell 0 (by omega)
    have hspot : spot = none := by simpa [Addr.add] using World.cell?_spot h0
    subst hspot
    refine ⟨b, off, rfl, fun k y hy => ?_⟩
    have hk : k < n := by
      have := (List.getElem?_eq_some_iff.1 hy).1
      simp at this; omega
    have hck := hcell k (by omega)
    rw [List.getElem?_take, if_pos hk] at hy
    have e2 : zs.getD k 0 = y := by simp [List.getD_eq_getElem?_getD, hy]
    rw [e2] at hck
    rw [← hck]
    congr 1
    unfold Addr.add
    split
    · simp_all
    · rfl
theorem open_ints {W : World} {a : Option Addr} {n c : Nat} {d : DataW H} {p : List MemPlace} (h : DataW.Trod enc Try.prog W 0 (fun _ => true) true 23 (.slice a n c) d p) :
    ∃ zs, RdL iv W a n zs ∧ n ≤ c ∧ ∀ z ∈ zs, (Lit.int .i64 z).wf = true := rdl_of_trod Try.underlying23 Try.underlying3 (by kernel_rfl) h
theorem open_bytes {W : World} {a : Option Addr} {n c : Nat} {d : DataW H} {p : List MemPlace} (h : DataW.Trod enc Try.prog W 0 (fun _ => true) true 27 (.slice a n c) d p) :
    ∃ zs, RdL (Value.int .u8) W a n zs ∧ n ≤ c ∧ ∀ z ∈ zs, (Lit.int .u8 z).wf = true := rdl_of_trod Try.underlying27 Try.underlying5 (by kernel_rfl) h
end
end Go.Proofs.Ytplalcciodbddaa
