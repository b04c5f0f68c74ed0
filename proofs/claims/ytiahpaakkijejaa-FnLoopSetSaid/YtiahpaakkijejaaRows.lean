/-
  No cell of these rows narrows 'for every input' (looked for: loops, veiled, ifaces, maps, wideKeys, modest, calm, conditions, laid).
  DERIVED. THE GIVEN ROWS OF THIS SEAT. 11 by the template 'for every input the law returns true; each argument reads behind the call as it read before'; 0 by the template 'total and deterministic' (their statements: YtiahpaakkijejaaTotals.lean).
  GIVEN WITH THE SEED: the statements are not yours to turn. If you find one false, say at which input.
  Laid BY PROGRAM, IN A SANDBOX (cutbox-rows.mjs): the forced cells as the released guide's own fill.sh prints them over the translation 6b92e72a2f5ac21d… (all of the seat's roots in one cut). By AI agents, Wed Nov 11 2026. No macro, syntax, notation, axiom, sorry.
-/
import Derived.Test.YtiahpaakkijejaaChecked
import GoSem.Claim
import GoSem.ClaimJoined
import GoSem.ClaimMapViews
import Derived.JoinedTies
import Derived.KernelRfl
namespace Go.Proofs.Ytiahpaakkijejaa
/- THE CELL 'sum', in the pinned program and in every row, IS THE sha256 OF THE DUMP (.gsa) THAT YtiahpaakkijejaaProg.lean LOADS. Nothing in Lean hashes anything: it is a label: what it is worth is what the hold of that sum in a sandbox is worth. -/
noncomputable def Try.pinned : Pinned := { name := "ytiahpaakkijejaa", sum := "6b92e72a2f5ac21d65dc1f42217d49670c0a6cf868ea9e46d81d10c53878ef3e", checked := Try.checked }
namespace Rows
def none {H : Type} : Left H := { results := [], args := [] }

/-- 'laws.FnStepWay': WHATEVER THE INPUT: true; the input reads as it did. -/
def fnStepWaySpec : ChangeSpec := { name := "fnStepWay", fn := fun _ => fun
  | [d] => { results := [.lit (.bool true)], args := [d] }
  | _ => none }
def fnStepWayRow : OpenClaim := { program := "ytiahpaakkijejaa", sum := "6b92e72a2f5ac21d65dc1f42217d49670c0a6cf868ea9e46d81d10c53878ef3e", func := "loop.example/circuitswitching/laws.FnStepWay", spec := "fnStepWay", apart := false }
def FnStepWaySaid : Prop := fnStepWayRow.holds Try.pinned (OpenSpec.ofChange fnStepWaySpec)

/-- ITS FALSE NEIGHBOUR: 'it returns false'. Refute it at one input. -/
def fnStepWayWrong : ChangeSpec := { name := "fnStepWay", fn := fun _ => fun
  | [d] => { results := [.lit (.bool false)], args := [d] }
  | _ => none }
def FnStepWayWrongFalsely : Prop := fnStepWayRow.holds Try.pinned (OpenSpec.ofChange fnStepWayWrong)

/-- 'laws.FnExactStepRun': WHATEVER THE INPUT: true; the input reads as it did. -/
def fnExactStepRunSpec : ChangeSpec := { name := "fnExactStepRun", fn := fun _ => fun
  | [d1, d2] => { results := [.lit (.bool true)], args := [d1, d2] }
  | _ => none }
def fnExactStepRunRow : OpenClaim := { program := "ytiahpaakkijejaa", sum := "6b92e72a2f5ac21d65dc1f42217d49670c0a6cf868ea9e46d81d10c53878ef3e", func := "loop.example/circuitswitching/laws.FnExactStepRun", spec := "fnExactStepRun", apart := false }
def FnExactStepRunSaid : Prop := fnExactStepRunRow.holds Try.pinned (OpenSpec.ofChange fnExactStepRunSpec)

/-- ITS FALSE NEIGHBOUR: 'it returns false'. Refute it at one input. -/
def fnExactStepRunWrong : ChangeSpec := { name := "fnExactStepRun", fn := fun _ => fun
  | [d1, d2] => { results := [.lit (.bool false)], args := [d1, d2] }
  | _ => none }
def FnExactStepRunWrongFalsely : Prop := fnExactStepRunRow.holds Try.pinned (OpenSpec.ofChange fnExactStepRunWrong)

/-- 'laws.FnExactLoopRun': WHATEVER THE INPUT: true; the input reads as it did. -/
def fnExactLoopRunSpec : ChangeSpec := { name := "fnExactLoopRun", fn := fun _ => fun
  | [d1, d2] => { results := [.lit (.bool true)], args := [d1, d2] }
  | _ => none }
def fnExactLoopRunRow : OpenClaim := { program := "ytiahpaakkijejaa", sum := "6b92e72a2f5ac21d65dc1f42217d49670c0a6cf868ea9e46d81d10c53878ef3e", func := "loop.example/circuitswitching/laws.FnExactLoopRun", spec := "fnExactLoopRun", recurses := true, apart := false }
def FnExactLoopRunSaid : Prop := fnExactLoopRunRow.holds Try.pinned (OpenSpec.ofChange fnExactLoopRunSpec)

/-- ITS FALSE NEIGHBOUR: 'it returns false'. Refute it at one input. -/
def fnExactLoopRunWrong : ChangeSpec := { name := "fnExactLoopRun", fn := fun _ => fun
  | [d1, d2] => { results := [.lit (.bool false)], args := [d1, d2] }
  | _ => none }
def FnExactLoopRunWrongFalsely : Prop := fnExactLoopRunRow.holds Try.pinned (OpenSpec.ofChange fnExactLoopRunWrong)

/-- 'laws.FnExactStepClashes': WHATEVER THE INPUT: true; the input reads as it did. -/
def fnExactStepClashesSpec : ChangeSpec := { name := "fnExactStepClashes", fn := fun _ => fun
  | [d] => { results := [.lit (.bool true)], args := [d] }
  | _ => none }
def fnExactStepClashesRow : OpenClaim := { program := "ytiahpaakkijejaa", sum := "6b92e72a2f5ac21d65dc1f42217d49670c0a6cf868ea9e46d81d10c53878ef3e", func := "loop.example/circuitswitching/laws.FnExactStepClashes", spec := "fnExactStepClashes", apart := false }
def FnExactStepClashesSaid : Prop := fnExactStepClashesRow.holds Try.pinned (OpenSpec.ofChange fnExactStepClashesSpec)

/-- ITS FALSE NEIGHBOUR: 'it returns false'. Refute it at one input. -/
def fnExactStepClashesWrong : ChangeSpec := { name := "fnExactStepClashes", fn := fun _ => fun
  | [d] => { results := [.lit (.bool false)], args := [d] }
  | _ => none }
def FnExactStepClashesWrongFalsely : Prop := fnExactStepClashesRow.holds Try.pinned (OpenSpec.ofChange fnExactStepClashesWrong)

/-- 'laws.FnLoopRun': WHATEVER THE INPUT: true; the input reads as it did. -/
def fnLoopRunSpec : ChangeSpec := { name := "fnLoopRun", fn := fun _ => fun
  | [d] => { results := [.lit (.bool true)], args := [d] }
  | _ => none }
def fnLoopRunRow : OpenClaim := { program := "ytiahpaakkijejaa", sum := "6b92e72a2f5ac21d65dc1f42217d49670c0a6cf868ea9e46d81d10c53878ef3e", func := "loop.example/circuitswitching/laws.FnLoopRun", spec := "fnLoopRun", recurses := true, apart := false }
def FnLoopRunSaid : Prop := fnLoopRunRow.holds Try.pinned (OpenSpec.ofChange fnLoopRunSpec)

/-- ITS FALSE NEIGHBOUR: 'it returns false'. Refute it at one input. -/
def fnLoopRunWrong : ChangeSpec := { name := "fnLoopRun", fn := fun _ => fun
  | [d] => { results := [.lit (.bool false)], args := [d] }
  | _ => none }
def FnLoopRunWrongFalsely : Prop := fnLoopRunRow.holds Try.pinned (OpenSpec.ofChange fnLoopRunWrong)

/-- 'laws.FnStepClashes': WHATEVER THE INPUT: true; the input reads as it did. -/
def fnStepClashesSpec : ChangeSpec := { name := "fnStepClashes", fn := fun _ => fun
  | [d] => { results := [.lit (.bool true)], args := [d] }
  | _ => none }
def fnStepClashesRow : OpenClaim := { program := "ytiahpaakkijejaa", sum := "6b92e72a2f5ac21d65dc1f42217d49670c0a6cf868ea9e46d81d10c53878ef3e", func := "loop.example/circuitswitching/laws.FnStepClashes", spec := "fnStepClashes", apart := false }
def FnStepClashesSaid : Prop := fnStepClashesRow.holds Try.pinned (OpenSpec.ofChange fnStepClashesSpec)

/-- ITS FALSE NEIGHBOUR: 'it returns false'. Refute it at one input. -/
def fnStepClashesWrong : ChangeSpec := { name := "fnStepClashes", fn := fun _ => fun
  | [d] => { results := [.lit (.bool false)], args := [d] }
  | _ => none }
def FnStepClashesWrongFalsely : Prop := fnStepClashesRow.holds Try.pinned (OpenSpec.ofChange fnStepClashesWrong)

/-- 'laws.FnExactLoopSet': WHATEVER THE INPUT: true; the input reads as it did. -/
def fnExactLoopSetSpec : ChangeSpec := { name := "fnExactLoopSet", fn := fun _ => fun
  | [d] => { results := [.lit (.bool true)], args := [d] }
  | _ => none }
def fnExactLoopSetRow : OpenClaim := { program := "ytiahpaakkijejaa", sum := "6b92e72a2f5ac21d65dc1f42217d49670c0a6cf868ea9e46d81d10c53878ef3e", func := "loop.example/circuitswitching/laws.FnExactLoopSet", spec := "fnExactLoopSet", recurses := true, apart := false }
def FnExactLoopSetSaid : Prop := fnExactLoopSetRow.holds Try.pinned (OpenSpec.ofChange fnExactLoopSetSpec)

/-- ITS FALSE NEIGHBOUR: 'it returns false'. Refute it at one input. -/
def fnExactLoopSetWrong : ChangeSpec := { name := "fnExactLoopSet", fn := fun _ => fun
  | [d] => { results := [.lit (.bool false)], args := [d] }
  | _ => none }
def FnExactLoopSetWrongFalsely : Prop := fnExactLoopSetRow.holds Try.pinned (OpenSpec.ofChange fnExactLoopSetWrong)

/-- 'laws.FnExactStepSet': WHATEVER THE INPUT: true; the input reads as it did. -/
def fnExactStepSetSpec : ChangeSpec := { name := "fnExactStepSet", fn := fun _ => fun
  | [d] => { results := [.lit (.bool true)], args := [d] }
  | _ => none }
def fnExactStepSetRow : OpenClaim := { program := "ytiahpaakkijejaa", sum := "6b92e72a2f5ac21d65dc1f42217d49670c0a6cf868ea9e46d81d10c53878ef3e", func := "loop.example/circuitswitching/laws.FnExactStepSet", spec := "fnExactStepSet", apart := false }
def FnExactStepSetSaid : Prop := fnExactStepSetRow.holds Try.pinned (OpenSpec.ofChange fnExactStepSetSpec)

/-- ITS FALSE NEIGHBOUR: 'it returns false'. Refute it at one input. -/
def fnExactStepSetWrong : ChangeSpec := { name := "fnExactStepSet", fn := fun _ => fun
  | [d] => { results := [.lit (.bool false)], args := [d] }
  | _ => none }
def FnExactStepSetWrongFalsely : Prop := fnExactStepSetRow.holds Try.pinned (OpenSpec.ofChange fnExactStepSetWrong)

/-- 'laws.FnStepRun': WHATEVER THE INPUT: true; the input reads as it did. -/
def fnStepRunSpec : ChangeSpec := { name := "fnStepRun", fn := fun _ => fun
  | [d] => { results := [.lit (.bool true)], args := [d] }
  | _ => none }
def fnStepRunRow : OpenClaim := { program := "ytiahpaakkijejaa", sum := "6b92e72a2f5ac21d65dc1f42217d49670c0a6cf868ea9e46d81d10c53878ef3e", func := "loop.example/circuitswitching/laws.FnStepRun", spec := "fnStepRun", apart := false }
def FnStepRunSaid : Prop := fnStepRunRow.holds Try.pinned (OpenSpec.ofChange fnStepRunSpec)

/-- ITS FALSE NEIGHBOUR: 'it returns false'. Refute it at one input. -/
def fnStepRunWrong : ChangeSpec := { name := "fnStepRun", fn := fun _ => fun
  | [d] => { results := [.lit (.bool false)], args := [d] }
  | _ => none }
def FnStepRunWrongFalsely : Prop := fnStepRunRow.holds Try.pinned (OpenSpec.ofChange fnStepRunWrong)

/-- 'laws.FnLoopSet': WHATEVER THE INPUT: true; the input reads as it did. -/
def fnLoopSetSpec : ChangeSpec := { name := "fnLoopSet", fn := fun _ => fun
  | [d] => { results := [.lit (.bool true)], args := [d] }
  | _ => none }
def fnLoopSetRow : OpenClaim := { program := "ytiahpaakkijejaa", sum := "6b92e72a2f5ac21d65dc1f42217d49670c0a6cf868ea9e46d81d10c53878ef3e", func := "loop.example/circuitswitching/laws.FnLoopSet", spec := "fnLoopSet", recurses := true, apart := false }
def FnLoopSetSaid : Prop := fnLoopSetRow.holds Try.pinned (OpenSpec.ofChange fnLoopSetSpec)

/-- ITS FALSE NEIGHBOUR: 'it returns false'. Refute it at one input. -/
def fnLoopSetWrong : ChangeSpec := { name := "fnLoopSet", fn := fun _ => fun
  | [d] => { results := [.lit (.bool false)], args := [d] }
  | _ => none }
def FnLoopSetWrongFalsely : Prop := fnLoopSetRow.holds Try.pinned (OpenSpec.ofChange fnLoopSetWrong)

/-- 'laws.FnStepSet': WHATEVER THE INPUT: true; the input reads as it did. -/
def fnStepSetSpec : ChangeSpec := { name := "fnStepSet", fn := fun _ => fun
  | [d] => { results := [.lit (.bool true)], args := [d] }
  | _ => none }
def fnStepSetRow : OpenClaim := { program := "ytiahpaakkijejaa", sum := "6b92e72a2f5ac21d65dc1f42217d49670c0a6cf868ea9e46d81d10c53878ef3e", func := "loop.example/circuitswitching/laws.FnStepSet", spec := "fnStepSet", apart := false }
def FnStepSetSaid : Prop := fnStepSetRow.holds Try.pinned (OpenSpec.ofChange fnStepSetSpec)

/-- ITS FALSE NEIGHBOUR: 'it returns false'. Refute it at one input. -/
def fnStepSetWrong : ChangeSpec := { name := "fnStepSet", fn := fun _ => fun
  | [d] => { results := [.lit (.bool false)], args := [d] }
  | _ => none }
def FnStepSetWrongFalsely : Prop := fnStepSetRow.holds Try.pinned (OpenSpec.ofChange fnStepSetWrong)

/- THE SECOND FORM. 'bulk': how many values and letters a reading holds, each counted each time it is reached (what is shared counts as often as it is met; a slice's spare places count too). A statement '..UptoSaid' is the law's where the arguments, and the package variables that the reading takes, are together of bulk at most 1048576: NARROWER than '..Said'. Prove '..Said' where nothing that the law and all that it calls make is longer than what came in: it says more and counts as full. Else prove '..UptoSaid'. A law counts once. -/
mutual
def uptoBulk {H : Type} : DataW H → Nat
  | .lit (.string bytes) => bytes.length + 1
  | .lit _ => 1
  | .nil => 1
  | .ptr d => uptoBulk d + 1
  | .slice elems spare => uptoBulkAll elems + uptoBulkAll spare + 1
  | .agg parts => uptoBulkAll parts + 1
  | .iface _ d => uptoBulk d + 1
  | .map entries => uptoBulkEntries entries + 1
  | .held _ => 1
def uptoBulkAll {H : Type} : List (DataW H) → Nat
  | [] => 0
  | d :: r => uptoBulk d + uptoBulkAll r
def uptoBulkEntries {H : Type} : List (Lit × DataW H) → Nat
  | [] => 0
  | x :: r => uptoBulkEntry x + uptoBulkEntries r
def uptoBulkEntry {H : Type} : Lit × DataW H → Nat
  | (.string bytes, d) => bytes.length + uptoBulk d + 1
  | (_, d) => uptoBulk d + 1
 end
def uptoSmall : (H : Type) → List (DataW H) → Bool := fun _ ds => decide (uptoBulkAll ds ≤ 1048576)
def OpenSpec.upto (s : _root_.Go.ChangeSpec) : _root_.Go.OpenSpec := { _root_.Go.OpenSpec.ofChange s with cond := some uptoSmall }

/-- 'laws.FnStepWay', WHERE WHAT IT READS IS OF BULK AT MOST 1048576: true; the input reads as it did. -/
def fnStepWayUptoRow : OpenClaim := { program := "ytiahpaakkijejaa", sum := "6b92e72a2f5ac21d65dc1f42217d49670c0a6cf868ea9e46d81d10c53878ef3e", func := "loop.example/circuitswitching/laws.FnStepWay", spec := "fnStepWay", apart := false, narrowed := true }
def FnStepWayUptoSaid : Prop := fnStepWayUptoRow.holds Try.pinned (OpenSpec.upto fnStepWaySpec)

/-- 'laws.FnExactStepRun', WHERE WHAT IT READS IS OF BULK AT MOST 1048576: true; the input reads as it did. -/
def fnExactStepRunUptoRow : OpenClaim := { program := "ytiahpaakkijejaa", sum := "6b92e72a2f5ac21d65dc1f42217d49670c0a6cf868ea9e46d81d10c53878ef3e", func := "loop.example/circuitswitching/laws.FnExactStepRun", spec := "fnExactStepRun", apart := false, narrowed := true }
def FnExactStepRunUptoSaid : Prop := fnExactStepRunUptoRow.holds Try.pinned (OpenSpec.upto fnExactStepRunSpec)

/-- 'laws.FnExactLoopRun', WHERE WHAT IT READS IS OF BULK AT MOST 1048576: true; the input reads as it did. -/
def fnExactLoopRunUptoRow : OpenClaim := { program := "ytiahpaakkijejaa", sum := "6b92e72a2f5ac21d65dc1f42217d49670c0a6cf868ea9e46d81d10c53878ef3e", func := "loop.example/circuitswitching/laws.FnExactLoopRun", spec := "fnExactLoopRun", recurses := true, apart := false, narrowed := true }
def FnExactLoopRunUptoSaid : Prop := fnExactLoopRunUptoRow.holds Try.pinned (OpenSpec.upto fnExactLoopRunSpec)

/-- 'laws.FnExactStepClashes', WHERE WHAT IT READS IS OF BULK AT MOST 1048576: true; the input reads as it did. -/
def fnExactStepClashesUptoRow : OpenClaim := { program := "ytiahpaakkijejaa", sum := "6b92e72a2f5ac21d65dc1f42217d49670c0a6cf868ea9e46d81d10c53878ef3e", func := "loop.example/circuitswitching/laws.FnExactStepClashes", spec := "fnExactStepClashes", apart := false, narrowed := true }
def FnExactStepClashesUptoSaid : Prop := fnExactStepClashesUptoRow.holds Try.pinned (OpenSpec.upto fnExactStepClashesSpec)

/-- 'laws.FnLoopRun', WHERE WHAT IT READS IS OF BULK AT MOST 1048576: true; the input reads as it did. -/
def fnLoopRunUptoRow : OpenClaim := { program := "ytiahpaakkijejaa", sum := "6b92e72a2f5ac21d65dc1f42217d49670c0a6cf868ea9e46d81d10c53878ef3e", func := "loop.example/circuitswitching/laws.FnLoopRun", spec := "fnLoopRun", recurses := true, apart := false, narrowed := true }
def FnLoopRunUptoSaid : Prop := fnLoopRunUptoRow.holds Try.pinned (OpenSpec.upto fnLoopRunSpec)

/-- 'laws.FnStepClashes', WHERE WHAT IT READS IS OF BULK AT MOST 1048576: true; the input reads as it did. -/
def fnStepClashesUptoRow : OpenClaim := { program := "ytiahpaakkijejaa", sum := "6b92e72a2f5ac21d65dc1f42217d49670c0a6cf868ea9e46d81d10c53878ef3e", func := "loop.example/circuitswitching/laws.FnStepClashes", spec := "fnStepClashes", apart := false, narrowed := true }
def FnStepClashesUptoSaid : Prop := fnStepClashesUptoRow.holds Try.pinned (OpenSpec.upto fnStepClashesSpec)

/-- 'laws.FnExactLoopSet', WHERE WHAT IT READS IS OF BULK AT MOST 1048576: true; the input reads as it did. -/
def fnExactLoopSetUptoRow : OpenClaim := { program := "ytiahpaakkijejaa", sum := "6b92e72a2f5ac21d65dc1f42217d49670c0a6cf868ea9e46d81d10c53878ef3e", func := "loop.example/circuitswitching/laws.FnExactLoopSet", spec := "fnExactLoopSet", recurses := true, apart := false, narrowed := true }
def FnExactLoopSetUptoSaid : Prop := fnExactLoopSetUptoRow.holds Try.pinned (OpenSpec.upto fnExactLoopSetSpec)

/-- 'laws.FnExactStepSet', WHERE WHAT IT READS IS OF BULK AT MOST 1048576: true; the input reads as it did. -/
def fnExactStepSetUptoRow : OpenClaim := { program := "ytiahpaakkijejaa", sum := "6b92e72a2f5ac21d65dc1f42217d49670c0a6cf868ea9e46d81d10c53878ef3e", func := "loop.example/circuitswitching/laws.FnExactStepSet", spec := "fnExactStepSet", apart := false, narrowed := true }
def FnExactStepSetUptoSaid : Prop := fnExactStepSetUptoRow.holds Try.pinned (OpenSpec.upto fnExactStepSetSpec)

/-- 'laws.FnStepRun', WHERE WHAT IT READS IS OF BULK AT MOST 1048576: true; the input reads as it did. -/
def fnStepRunUptoRow : OpenClaim := { program := "ytiahpaakkijejaa", sum := "6b92e72a2f5ac21d65dc1f42217d49670c0a6cf868ea9e46d81d10c53878ef3e", func := "loop.example/circuitswitching/laws.FnStepRun", spec := "fnStepRun", apart := false, narrowed := true }
def FnStepRunUptoSaid : Prop := fnStepRunUptoRow.holds Try.pinned (OpenSpec.upto fnStepRunSpec)

/-- 'laws.FnLoopSet', WHERE WHAT IT READS IS OF BULK AT MOST 1048576: true; the input reads as it did. -/
def fnLoopSetUptoRow : OpenClaim := { program := "ytiahpaakkijejaa", sum := "6b92e72a2f5ac21d65dc1f42217d49670c0a6cf868ea9e46d81d10c53878ef3e", func := "loop.example/circuitswitching/laws.FnLoopSet", spec := "fnLoopSet", recurses := true, apart := false, narrowed := true }
def FnLoopSetUptoSaid : Prop := fnLoopSetUptoRow.holds Try.pinned (OpenSpec.upto fnLoopSetSpec)

/-- 'laws.FnStepSet', WHERE WHAT IT READS IS OF BULK AT MOST 1048576: true; the input reads as it did. -/
def fnStepSetUptoRow : OpenClaim := { program := "ytiahpaakkijejaa", sum := "6b92e72a2f5ac21d65dc1f42217d49670c0a6cf868ea9e46d81d10c53878ef3e", func := "loop.example/circuitswitching/laws.FnStepSet", spec := "fnStepSet", apart := false, narrowed := true }
def FnStepSetUptoSaid : Prop := fnStepSetUptoRow.holds Try.pinned (OpenSpec.upto fnStepSetSpec)

end Rows
end Go.Proofs.Ytiahpaakkijejaa
