/-
  No cell of these rows narrows 'for every input' (looked for: loops, veiled, ifaces, maps, wideKeys, modest, calm, conditions, laid).
  DERIVED. THE GIVEN ROWS OF THIS SEAT. 6 by the template 'for every input the law returns true; each argument reads behind the call as it read before'; 0 by the template 'total and deterministic' (their statements: YtolokioombhfhaaTotals.lean).
  GIVEN WITH THE SEED: the statements are not yours to turn. If you find one false, say at which input.
  Laid BY PROGRAM, IN A SANDBOX (cutbox-rows.mjs): the forced cells as the released guide's own fill.sh prints them over the translation cca0cbf275bcddc6… (all of the seat's roots in one cut). By AI agents, Wed Nov 11 2026. No macro, syntax, notation, axiom, sorry.
-/
import Derived.Test.YtolokioombhfhaaChecked
import GoSem.Claim
import GoSem.ClaimJoined
import GoSem.ClaimMapViews
import Derived.JoinedTies
import Derived.KernelRfl
namespace Go.Proofs.Ytolokioombhfhaa
/- THE CELL 'sum', in the pinned program and in every row, IS THE sha256 OF THE DUMP (.gsa) THAT YtolokioombhfhaaProg.lean LOADS. Nothing in Lean hashes anything: it is a label: what it is worth is what the hold of that sum in a sandbox is worth. -/
noncomputable def Try.pinned : Pinned := { name := "ytolokioombhfhaa", sum := "cca0cbf275bcddc6c3b90b85a5478a6d1c53ea3d70fd39b6f2904c1e03c351a3", checked := Try.checked }
namespace Rows
def none {H : Type} : Left H := { results := [], args := [] }

/-- 'laws.FnExactShapeValid': WHATEVER THE INPUT: true; the input reads as it did. -/
def fnExactShapeValidSpec : ChangeSpec := { name := "fnExactShapeValid", fn := fun _ => fun
  | [d] => { results := [.lit (.bool true)], args := [d] }
  | _ => none }
def fnExactShapeValidRow : OpenClaim := { program := "ytolokioombhfhaa", sum := "cca0cbf275bcddc6c3b90b85a5478a6d1c53ea3d70fd39b6f2904c1e03c351a3", func := "loop.example/circuitswitching/laws.FnExactShapeValid", spec := "fnExactShapeValid", apart := false }
def FnExactShapeValidSaid : Prop := fnExactShapeValidRow.holds Try.pinned (OpenSpec.ofChange fnExactShapeValidSpec)

/-- ITS FALSE NEIGHBOUR: 'it returns false'. Refute it at one input. -/
def fnExactShapeValidWrong : ChangeSpec := { name := "fnExactShapeValid", fn := fun _ => fun
  | [d] => { results := [.lit (.bool false)], args := [d] }
  | _ => none }
def FnExactShapeValidWrongFalsely : Prop := fnExactShapeValidRow.holds Try.pinned (OpenSpec.ofChange fnExactShapeValidWrong)

/-- 'laws.FnExactDigitsOk': WHATEVER THE INPUT: true; the input reads as it did. -/
def fnExactDigitsOkSpec : ChangeSpec := { name := "fnExactDigitsOk", fn := fun _ => fun
  | [d] => { results := [.lit (.bool true)], args := [d] }
  | _ => none }
def fnExactDigitsOkRow : OpenClaim := { program := "ytolokioombhfhaa", sum := "cca0cbf275bcddc6c3b90b85a5478a6d1c53ea3d70fd39b6f2904c1e03c351a3", func := "loop.example/circuitswitching/laws.FnExactDigitsOk", spec := "fnExactDigitsOk", apart := false }
def FnExactDigitsOkSaid : Prop := fnExactDigitsOkRow.holds Try.pinned (OpenSpec.ofChange fnExactDigitsOkSpec)

/-- ITS FALSE NEIGHBOUR: 'it returns false'. Refute it at one input. -/
def fnExactDigitsOkWrong : ChangeSpec := { name := "fnExactDigitsOk", fn := fun _ => fun
  | [d] => { results := [.lit (.bool false)], args := [d] }
  | _ => none }
def FnExactDigitsOkWrongFalsely : Prop := fnExactDigitsOkRow.holds Try.pinned (OpenSpec.ofChange fnExactDigitsOkWrong)

/-- 'laws.FnExactEnough': WHATEVER THE INPUT: true; the input reads as it did. -/
def fnExactEnoughSpec : ChangeSpec := { name := "fnExactEnough", fn := fun _ => fun
  | [d] => { results := [.lit (.bool true)], args := [d] }
  | _ => none }
def fnExactEnoughRow : OpenClaim := { program := "ytolokioombhfhaa", sum := "cca0cbf275bcddc6c3b90b85a5478a6d1c53ea3d70fd39b6f2904c1e03c351a3", func := "loop.example/circuitswitching/laws.FnExactEnough", spec := "fnExactEnough", apart := false }
def FnExactEnoughSaid : Prop := fnExactEnoughRow.holds Try.pinned (OpenSpec.ofChange fnExactEnoughSpec)

/-- ITS FALSE NEIGHBOUR: 'it returns false'. Refute it at one input. -/
def fnExactEnoughWrong : ChangeSpec := { name := "fnExactEnough", fn := fun _ => fun
  | [d] => { results := [.lit (.bool false)], args := [d] }
  | _ => none }
def FnExactEnoughWrongFalsely : Prop := fnExactEnoughRow.holds Try.pinned (OpenSpec.ofChange fnExactEnoughWrong)

/-- 'laws.FnExactStrict': WHATEVER THE INPUT: true; the input reads as it did. -/
def fnExactStrictSpec : ChangeSpec := { name := "fnExactStrict", fn := fun _ => fun
  | [d] => { results := [.lit (.bool true)], args := [d] }
  | _ => none }
def fnExactStrictRow : OpenClaim := { program := "ytolokioombhfhaa", sum := "cca0cbf275bcddc6c3b90b85a5478a6d1c53ea3d70fd39b6f2904c1e03c351a3", func := "loop.example/circuitswitching/laws.FnExactStrict", spec := "fnExactStrict", apart := false }
def FnExactStrictSaid : Prop := fnExactStrictRow.holds Try.pinned (OpenSpec.ofChange fnExactStrictSpec)

/-- ITS FALSE NEIGHBOUR: 'it returns false'. Refute it at one input. -/
def fnExactStrictWrong : ChangeSpec := { name := "fnExactStrict", fn := fun _ => fun
  | [d] => { results := [.lit (.bool false)], args := [d] }
  | _ => none }
def FnExactStrictWrongFalsely : Prop := fnExactStrictRow.holds Try.pinned (OpenSpec.ofChange fnExactStrictWrong)

/-- 'laws.FnExactLengthsValid': WHATEVER THE INPUT: true; the input reads as it did. -/
def fnExactLengthsValidSpec : ChangeSpec := { name := "fnExactLengthsValid", fn := fun _ => fun
  | [d] => { results := [.lit (.bool true)], args := [d] }
  | _ => none }
def fnExactLengthsValidRow : OpenClaim := { program := "ytolokioombhfhaa", sum := "cca0cbf275bcddc6c3b90b85a5478a6d1c53ea3d70fd39b6f2904c1e03c351a3", func := "loop.example/circuitswitching/laws.FnExactLengthsValid", spec := "fnExactLengthsValid", apart := false }
def FnExactLengthsValidSaid : Prop := fnExactLengthsValidRow.holds Try.pinned (OpenSpec.ofChange fnExactLengthsValidSpec)

/-- ITS FALSE NEIGHBOUR: 'it returns false'. Refute it at one input. -/
def fnExactLengthsValidWrong : ChangeSpec := { name := "fnExactLengthsValid", fn := fun _ => fun
  | [d] => { results := [.lit (.bool false)], args := [d] }
  | _ => none }
def FnExactLengthsValidWrongFalsely : Prop := fnExactLengthsValidRow.holds Try.pinned (OpenSpec.ofChange fnExactLengthsValidWrong)

/-- 'laws.FnExactOftenValid': WHATEVER THE INPUT: true; the input reads as it did. -/
def fnExactOftenValidSpec : ChangeSpec := { name := "fnExactOftenValid", fn := fun _ => fun
  | [d] => { results := [.lit (.bool true)], args := [d] }
  | _ => none }
def fnExactOftenValidRow : OpenClaim := { program := "ytolokioombhfhaa", sum := "cca0cbf275bcddc6c3b90b85a5478a6d1c53ea3d70fd39b6f2904c1e03c351a3", func := "loop.example/circuitswitching/laws.FnExactOftenValid", spec := "fnExactOftenValid", apart := false }
def FnExactOftenValidSaid : Prop := fnExactOftenValidRow.holds Try.pinned (OpenSpec.ofChange fnExactOftenValidSpec)

/-- ITS FALSE NEIGHBOUR: 'it returns false'. Refute it at one input. -/
def fnExactOftenValidWrong : ChangeSpec := { name := "fnExactOftenValid", fn := fun _ => fun
  | [d] => { results := [.lit (.bool false)], args := [d] }
  | _ => none }
def FnExactOftenValidWrongFalsely : Prop := fnExactOftenValidRow.holds Try.pinned (OpenSpec.ofChange fnExactOftenValidWrong)

/- THE SECOND FORM. 'bulk': how many values and letters a reading holds, each counted each time it is reached (what is shared counts as often as it is met; a slice's spare places count too). A statement '..UptoSaid' is the law's where the arguments, and the package variables that the reading takes, are together of bulk at most 1048576: NARROWER than '..Said'. Prove '..Said' where nothing that the law and all that it calls make is longer than what came in: it says more and counts as full. Else prove '..UptoSaid'. A law counts once. -/
mutual
def uptoBulk {H : Type} : DataW H → Nat
  | .lit (.string bytes) => bytes.length + 1
  | .lit _ => 1
  | .nil => 1
  | .ptr d => uptoBulk d + 1
  | .slice elems spare => uptoBulkAll elems + uptoBulkAll spare + 1
  | .agg parts => uptoBulkAll parts + 1
  | .iface _ d => uptoBulk d + 1
  | .map entries => uptoBulkEntries entries + 1
  | .held _ => 1
def uptoBulkAll {H : Type} : List (DataW H) → Nat
  | [] => 0
  | d :: r => uptoBulk d + uptoBulkAll r
def uptoBulkEntries {H : Type} : List (Lit × DataW H) → Nat
  | [] => 0
  | x :: r => uptoBulkEntry x + uptoBulkEntries r
def uptoBulkEntry {H : Type} : Lit × DataW H → Nat
  | (.string bytes, d) => bytes.length + uptoBulk d + 1
  | (_, d) => uptoBulk d + 1
 end
def uptoSmall : (H : Type) → List (DataW H) → Bool := fun _ ds => decide (uptoBulkAll ds ≤ 1048576)
def OpenSpec.upto (s : _root_.Go.ChangeSpec) : _root_.Go.OpenSpec := { _root_.Go.OpenSpec.ofChange s with cond := some uptoSmall }

/-- 'laws.FnExactShapeValid', WHERE WHAT IT READS IS OF BULK AT MOST 1048576: true; the input reads as it did. -/
def fnExactShapeValidUptoRow : OpenClaim := { program := "ytolokioombhfhaa", sum := "cca0cbf275bcddc6c3b90b85a5478a6d1c53ea3d70fd39b6f2904c1e03c351a3", func := "loop.example/circuitswitching/laws.FnExactShapeValid", spec := "fnExactShapeValid", apart := false, narrowed := true }
def FnExactShapeValidUptoSaid : Prop := fnExactShapeValidUptoRow.holds Try.pinned (OpenSpec.upto fnExactShapeValidSpec)

/-- 'laws.FnExactDigitsOk', WHERE WHAT IT READS IS OF BULK AT MOST 1048576: true; the input reads as it did. -/
def fnExactDigitsOkUptoRow : OpenClaim := { program := "ytolokioombhfhaa", sum := "cca0cbf275bcddc6c3b90b85a5478a6d1c53ea3d70fd39b6f2904c1e03c351a3", func := "loop.example/circuitswitching/laws.FnExactDigitsOk", spec := "fnExactDigitsOk", apart := false, narrowed := true }
def FnExactDigitsOkUptoSaid : Prop := fnExactDigitsOkUptoRow.holds Try.pinned (OpenSpec.upto fnExactDigitsOkSpec)

/-- 'laws.FnExactEnough', WHERE WHAT IT READS IS OF BULK AT MOST 1048576: true; the input reads as it did. -/
def fnExactEnoughUptoRow : OpenClaim := { program := "ytolokioombhfhaa", sum := "cca0cbf275bcddc6c3b90b85a5478a6d1c53ea3d70fd39b6f2904c1e03c351a3", func := "loop.example/circuitswitching/laws.FnExactEnough", spec := "fnExactEnough", apart := false, narrowed := true }
def FnExactEnoughUptoSaid : Prop := fnExactEnoughUptoRow.holds Try.pinned (OpenSpec.upto fnExactEnoughSpec)

/-- 'laws.FnExactStrict', WHERE WHAT IT READS IS OF BULK AT MOST 1048576: true; the input reads as it did. -/
def fnExactStrictUptoRow : OpenClaim := { program := "ytolokioombhfhaa", sum := "cca0cbf275bcddc6c3b90b85a5478a6d1c53ea3d70fd39b6f2904c1e03c351a3", func := "loop.example/circuitswitching/laws.FnExactStrict", spec := "fnExactStrict", apart := false, narrowed := true }
def FnExactStrictUptoSaid : Prop := fnExactStrictUptoRow.holds Try.pinned (OpenSpec.upto fnExactStrictSpec)

/-- 'laws.FnExactLengthsValid', WHERE WHAT IT READS IS OF BULK AT MOST 1048576: true; the input reads as it did. -/
def fnExactLengthsValidUptoRow : OpenClaim := { program := "ytolokioombhfhaa", sum := "cca0cbf275bcddc6c3b90b85a5478a6d1c53ea3d70fd39b6f2904c1e03c351a3", func := "loop.example/circuitswitching/laws.FnExactLengthsValid", spec := "fnExactLengthsValid", apart := false, narrowed := true }
def FnExactLengthsValidUptoSaid : Prop := fnExactLengthsValidUptoRow.holds Try.pinned (OpenSpec.upto fnExactLengthsValidSpec)

/-- 'laws.FnExactOftenValid', WHERE WHAT IT READS IS OF BULK AT MOST 1048576: true; the input reads as it did. -/
def fnExactOftenValidUptoRow : OpenClaim := { program := "ytolokioombhfhaa", sum := "cca0cbf275bcddc6c3b90b85a5478a6d1c53ea3d70fd39b6f2904c1e03c351a3", func := "loop.example/circuitswitching/laws.FnExactOftenValid", spec := "fnExactOftenValid", apart := false, narrowed := true }
def FnExactOftenValidUptoSaid : Prop := fnExactOftenValidUptoRow.holds Try.pinned (OpenSpec.upto fnExactOftenValidSpec)

end Rows
end Go.Proofs.Ytolokioombhfhaa
