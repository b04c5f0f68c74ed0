/-
  No cell of these rows narrows 'for every input' (looked for: loops, veiled, ifaces, maps, wideKeys, modest, calm, conditions, laid).
  DERIVED. THE GIVEN ROWS OF THIS SEAT. 11 by the template 'for every input the law returns true; each argument reads behind the call as it read before'; 0 by the template 'total and deterministic' (their statements: YtplalcciodbddaaTotals.lean).
  GIVEN WITH THE SEED: the statements are not yours to turn. If you find one false, say at which input.
  Laid BY PROGRAM, IN A SANDBOX (cutbox-rows.mjs): the forced cells as the released guide's own fill.sh prints them over the translation 9641b729a4eec1c8… (all of the seat's roots in one cut). By AI agents, Wed Nov 11 2026. No macro, syntax, notation, axiom, sorry.
-/
import Derived.Test.YtplalcciodbddaaChecked
import GoSem.Claim
import GoSem.ClaimJoined
import GoSem.ClaimMapViews
import Derived.JoinedTies
import Derived.KernelRfl
namespace Go.Proofs.Ytplalcciodbddaa
/- THE CELL 'sum', in the pinned program and in every row, IS THE sha256 OF THE DUMP (.gsa) THAT YtplalcciodbddaaProg.lean LOADS. Nothing in Lean hashes anything: it is a label: what it is worth is what the hold of that sum in a sandbox is worth. -/
noncomputable def Try.pinned : Pinned := { name := "ytplalcciodbddaa", sum := "9641b729a4eec1c83ea6e98478baf924ec40014b358e75cc647f50e915114f76", checked := Try.checked }
namespace Rows
def none {H : Type} : Left H := { results := [], args := [] }

/-- 'laws.FnExactDigitsOk': WHATEVER THE INPUT: true; the input reads as it did. -/
def fnExactDigitsOkSpec : ChangeSpec := { name := "fnExactDigitsOk", fn := fun _ => fun
  | [d] => { results := [.lit (.bool true)], args := [d] }
  | _ => none }
def fnExactDigitsOkRow : OpenClaim := { program := "ytplalcciodbddaa", sum := "9641b729a4eec1c83ea6e98478baf924ec40014b358e75cc647f50e915114f76", func := "loop.example/circuitswitching/laws.FnExactDigitsOk", spec := "fnExactDigitsOk", apart := false }
def FnExactDigitsOkSaid : Prop := fnExactDigitsOkRow.holds Try.pinned (OpenSpec.ofChange fnExactDigitsOkSpec)

/-- ITS FALSE NEIGHBOUR: 'it returns false'. Refute it at one input. -/
def fnExactDigitsOkWrong : ChangeSpec := { name := "fnExactDigitsOk", fn := fun _ => fun
  | [d] => { results := [.lit (.bool false)], args := [d] }
  | _ => none }
def FnExactDigitsOkWrongFalsely : Prop := fnExactDigitsOkRow.holds Try.pinned (OpenSpec.ofChange fnExactDigitsOkWrong)

/-- 'laws.FnExactLengthsValid': WHATEVER THE INPUT: true; the input reads as it did. -/
def fnExactLengthsValidSpec : ChangeSpec := { name := "fnExactLengthsValid", fn := fun _ => fun
  | [d] => { results := [.lit (.bool true)], args := [d] }
  | _ => none }
def fnExactLengthsValidRow : OpenClaim := { program := "ytplalcciodbddaa", sum := "9641b729a4eec1c83ea6e98478baf924ec40014b358e75cc647f50e915114f76", func := "loop.example/circuitswitching/laws.FnExactLengthsValid", spec := "fnExactLengthsValid", apart := false }
def FnExactLengthsValidSaid : Prop := fnExactLengthsValidRow.holds Try.pinned (OpenSpec.ofChange fnExactLengthsValidSpec)

/-- ITS FALSE NEIGHBOUR: 'it returns false'. Refute it at one input. -/
def fnExactLengthsValidWrong : ChangeSpec := { name := "fnExactLengthsValid", fn := fun _ => fun
  | [d] => { results := [.lit (.bool false)], args := [d] }
  | _ => none }
def FnExactLengthsValidWrongFalsely : Prop := fnExactLengthsValidRow.holds Try.pinned (OpenSpec.ofChange fnExactLengthsValidWrong)

/-- 'laws.FnExactOftenValid': WHATEVER THE INPUT: true; the input reads as it did. -/
def fnExactOftenValidSpec : ChangeSpec := { name := "fnExactOftenValid", fn := fun _ => fun
  | [d] => { results := [.lit (.bool true)], args := [d] }
  | _ => none }
def fnExactOftenValidRow : OpenClaim := { program := "ytplalcciodbddaa", sum := "9641b729a4eec1c83ea6e98478baf924ec40014b358e75cc647f50e915114f76", func := "loop.example/circuitswitching/laws.FnExactOftenValid", spec := "fnExactOftenValid", apart := false }
def FnExactOftenValidSaid : Prop := fnExactOftenValidRow.holds Try.pinned (OpenSpec.ofChange fnExactOftenValidSpec)

/-- ITS FALSE NEIGHBOUR: 'it returns false'. Refute it at one input. -/
def fnExactOftenValidWrong : ChangeSpec := { name := "fnExactOftenValid", fn := fun _ => fun
  | [d] => { results := [.lit (.bool false)], args := [d] }
  | _ => none }
def FnExactOftenValidWrongFalsely : Prop := fnExactOftenValidRow.holds Try.pinned (OpenSpec.ofChange fnExactOftenValidWrong)

/-- 'laws.FnDigitsOk': WHATEVER THE INPUT: true; the input reads as it did. -/
def fnDigitsOkSpec : ChangeSpec := { name := "fnDigitsOk", fn := fun _ => fun
  | [d] => { results := [.lit (.bool true)], args := [d] }
  | _ => none }
def fnDigitsOkRow : OpenClaim := { program := "ytplalcciodbddaa", sum := "9641b729a4eec1c83ea6e98478baf924ec40014b358e75cc647f50e915114f76", func := "loop.example/circuitswitching/laws.FnDigitsOk", spec := "fnDigitsOk", apart := false }
def FnDigitsOkSaid : Prop := fnDigitsOkRow.holds Try.pinned (OpenSpec.ofChange fnDigitsOkSpec)

/-- ITS FALSE NEIGHBOUR: 'it returns false'. Refute it at one input. -/
def fnDigitsOkWrong : ChangeSpec := { name := "fnDigitsOk", fn := fun _ => fun
  | [d] => { results := [.lit (.bool false)], args := [d] }
  | _ => none }
def FnDigitsOkWrongFalsely : Prop := fnDigitsOkRow.holds Try.pinned (OpenSpec.ofChange fnDigitsOkWrong)

/-- 'laws.FnExactShareSum': WHATEVER THE INPUT: true; the input reads as it did. -/
def fnExactShareSumSpec : ChangeSpec := { name := "fnExactShareSum", fn := fun _ => fun
  | [d] => { results := [.lit (.bool true)], args := [d] }
  | _ => none }
def fnExactShareSumRow : OpenClaim := { program := "ytplalcciodbddaa", sum := "9641b729a4eec1c83ea6e98478baf924ec40014b358e75cc647f50e915114f76", func := "loop.example/circuitswitching/laws.FnExactShareSum", spec := "fnExactShareSum", apart := false }
def FnExactShareSumSaid : Prop := fnExactShareSumRow.holds Try.pinned (OpenSpec.ofChange fnExactShareSumSpec)

/-- ITS FALSE NEIGHBOUR: 'it returns false'. Refute it at one input. -/
def fnExactShareSumWrong : ChangeSpec := { name := "fnExactShareSum", fn := fun _ => fun
  | [d] => { results := [.lit (.bool false)], args := [d] }
  | _ => none }
def FnExactShareSumWrongFalsely : Prop := fnExactShareSumRow.holds Try.pinned (OpenSpec.ofChange fnExactShareSumWrong)

/-- 'laws.FnLengthsValid': WHATEVER THE INPUT: true; the input reads as it did. -/
def fnLengthsValidSpec : ChangeSpec := { name := "fnLengthsValid", fn := fun _ => fun
  | [d] => { results := [.lit (.bool true)], args := [d] }
  | _ => none }
def fnLengthsValidRow : OpenClaim := { program := "ytplalcciodbddaa", sum := "9641b729a4eec1c83ea6e98478baf924ec40014b358e75cc647f50e915114f76", func := "loop.example/circuitswitching/laws.FnLengthsValid", spec := "fnLengthsValid", apart := false }
def FnLengthsValidSaid : Prop := fnLengthsValidRow.holds Try.pinned (OpenSpec.ofChange fnLengthsValidSpec)

/-- ITS FALSE NEIGHBOUR: 'it returns false'. Refute it at one input. -/
def fnLengthsValidWrong : ChangeSpec := { name := "fnLengthsValid", fn := fun _ => fun
  | [d] => { results := [.lit (.bool false)], args := [d] }
  | _ => none }
def FnLengthsValidWrongFalsely : Prop := fnLengthsValidRow.holds Try.pinned (OpenSpec.ofChange fnLengthsValidWrong)

/-- 'laws.FnExactDialCost': WHATEVER THE INPUT: true; the input reads as it did. -/
def fnExactDialCostSpec : ChangeSpec := { name := "fnExactDialCost", fn := fun _ => fun
  | [d1, d2] => { results := [.lit (.bool true)], args := [d1, d2] }
  | _ => none }
def fnExactDialCostRow : OpenClaim := { program := "ytplalcciodbddaa", sum := "9641b729a4eec1c83ea6e98478baf924ec40014b358e75cc647f50e915114f76", func := "loop.example/circuitswitching/laws.FnExactDialCost", spec := "fnExactDialCost", apart := false }
def FnExactDialCostSaid : Prop := fnExactDialCostRow.holds Try.pinned (OpenSpec.ofChange fnExactDialCostSpec)

/-- ITS FALSE NEIGHBOUR: 'it returns false'. Refute it at one input. -/
def fnExactDialCostWrong : ChangeSpec := { name := "fnExactDialCost", fn := fun _ => fun
  | [d1, d2] => { results := [.lit (.bool false)], args := [d1, d2] }
  | _ => none }
def FnExactDialCostWrongFalsely : Prop := fnExactDialCostRow.holds Try.pinned (OpenSpec.ofChange fnExactDialCostWrong)

/-- 'laws.FnOftenValid': WHATEVER THE INPUT: true; the input reads as it did. -/
def fnOftenValidSpec : ChangeSpec := { name := "fnOftenValid", fn := fun _ => fun
  | [d] => { results := [.lit (.bool true)], args := [d] }
  | _ => none }
def fnOftenValidRow : OpenClaim := { program := "ytplalcciodbddaa", sum := "9641b729a4eec1c83ea6e98478baf924ec40014b358e75cc647f50e915114f76", func := "loop.example/circuitswitching/laws.FnOftenValid", spec := "fnOftenValid", apart := false }
def FnOftenValidSaid : Prop := fnOftenValidRow.holds Try.pinned (OpenSpec.ofChange fnOftenValidSpec)

/-- ITS FALSE NEIGHBOUR: 'it returns false'. Refute it at one input. -/
def fnOftenValidWrong : ChangeSpec := { name := "fnOftenValid", fn := fun _ => fun
  | [d] => { results := [.lit (.bool false)], args := [d] }
  | _ => none }
def FnOftenValidWrongFalsely : Prop := fnOftenValidRow.holds Try.pinned (OpenSpec.ofChange fnOftenValidWrong)

/-- 'laws.FnExactPlanValid': WHATEVER THE INPUT: true; the input reads as it did. -/
def fnExactPlanValidSpec : ChangeSpec := { name := "fnExactPlanValid", fn := fun _ => fun
  | [d] => { results := [.lit (.bool true)], args := [d] }
  | _ => none }
def fnExactPlanValidRow : OpenClaim := { program := "ytplalcciodbddaa", sum := "9641b729a4eec1c83ea6e98478baf924ec40014b358e75cc647f50e915114f76", func := "loop.example/circuitswitching/laws.FnExactPlanValid", spec := "fnExactPlanValid", apart := false }
def FnExactPlanValidSaid : Prop := fnExactPlanValidRow.holds Try.pinned (OpenSpec.ofChange fnExactPlanValidSpec)

/-- ITS FALSE NEIGHBOUR: 'it returns false'. Refute it at one input. -/
def fnExactPlanValidWrong : ChangeSpec := { name := "fnExactPlanValid", fn := fun _ => fun
  | [d] => { results := [.lit (.bool false)], args := [d] }
  | _ => none }
def FnExactPlanValidWrongFalsely : Prop := fnExactPlanValidRow.holds Try.pinned (OpenSpec.ofChange fnExactPlanValidWrong)

/-- 'laws.FnExactRoutesValid': WHATEVER THE INPUT: true; the input reads as it did. -/
def fnExactRoutesValidSpec : ChangeSpec := { name := "fnExactRoutesValid", fn := fun _ => fun
  | [d] => { results := [.lit (.bool true)], args := [d] }
  | _ => none }
def fnExactRoutesValidRow : OpenClaim := { program := "ytplalcciodbddaa", sum := "9641b729a4eec1c83ea6e98478baf924ec40014b358e75cc647f50e915114f76", func := "loop.example/circuitswitching/laws.FnExactRoutesValid", spec := "fnExactRoutesValid", apart := false }
def FnExactRoutesValidSaid : Prop := fnExactRoutesValidRow.holds Try.pinned (OpenSpec.ofChange fnExactRoutesValidSpec)

/-- ITS FALSE NEIGHBOUR: 'it returns false'. Refute it at one input. -/
def fnExactRoutesValidWrong : ChangeSpec := { name := "fnExactRoutesValid", fn := fun _ => fun
  | [d] => { results := [.lit (.bool false)], args := [d] }
  | _ => none }
def FnExactRoutesValidWrongFalsely : Prop := fnExactRoutesValidRow.holds Try.pinned (OpenSpec.ofChange fnExactRoutesValidWrong)

/-- 'laws.FnExactDialOne': WHATEVER THE INPUT: true; the input reads as it did. -/
def fnExactDialOneSpec : ChangeSpec := { name := "fnExactDialOne", fn := fun _ => fun
  | [d1, d2] => { results := [.lit (.bool true)], args := [d1, d2] }
  | _ => none }
def fnExactDialOneRow : OpenClaim := { program := "ytplalcciodbddaa", sum := "9641b729a4eec1c83ea6e98478baf924ec40014b358e75cc647f50e915114f76", func := "loop.example/circuitswitching/laws.FnExactDialOne", spec := "fnExactDialOne", apart := false }
def FnExactDialOneSaid : Prop := fnExactDialOneRow.holds Try.pinned (OpenSpec.ofChange fnExactDialOneSpec)

/-- ITS FALSE NEIGHBOUR: 'it returns false'. Refute it at one input. -/
def fnExactDialOneWrong : ChangeSpec := { name := "fnExactDialOne", fn := fun _ => fun
  | [d1, d2] => { results := [.lit (.bool false)], args := [d1, d2] }
  | _ => none }
def FnExactDialOneWrongFalsely : Prop := fnExactDialOneRow.holds Try.pinned (OpenSpec.ofChange fnExactDialOneWrong)

/- THE SECOND FORM. 'bulk': how many values and letters a reading holds, each counted each time it is reached (what is shared counts as often as it is met; a slice's spare places count too). A statement '..UptoSaid' is the law's where the arguments, and the package variables that the reading takes, are together of bulk at most 1048576: NARROWER than '..Said'. Prove '..Said' where nothing that the law and all that it calls make is longer than what came in: it says more and counts as full. Else prove '..UptoSaid'. A law counts once. -/
mutual
def uptoBulk {H : Type} : DataW H → Nat
  | .lit (.string bytes) => bytes.length + 1
  | .lit _ => 1
  | .nil => 1
  | .ptr d => uptoBulk d + 1
  | .slice elems spare => uptoBulkAll elems + uptoBulkAll spare + 1
  | .agg parts => uptoBulkAll parts + 1
  | .iface _ d => uptoBulk d + 1
  | .map entries => uptoBulkEntries entries + 1
  | .held _ => 1
def uptoBulkAll {H : Type} : List (DataW H) → Nat
  | [] => 0
  | d :: r => uptoBulk d + uptoBulkAll r
def uptoBulkEntries {H : Type} : List (Lit × DataW H) → Nat
  | [] => 0
  | x :: r => uptoBulkEntry x + uptoBulkEntries r
def uptoBulkEntry {H : Type} : Lit × DataW H → Nat
  | (.string bytes, d) => bytes.length + uptoBulk d + 1
  | (_, d) => uptoBulk d + 1
 end
def uptoSmall : (H : Type) → List (DataW H) → Bool := fun _ ds => decide (uptoBulkAll ds ≤ 1048576)
def OpenSpec.upto (s : _root_.Go.ChangeSpec) : _root_.Go.OpenSpec := { _root_.Go.OpenSpec.ofChange s with cond := some uptoSmall }

/-- 'laws.FnExactDigitsOk', WHERE WHAT IT READS IS OF BULK AT MOST 1048576: true; the input reads as it did. -/
def fnExactDigitsOkUptoRow : OpenClaim := { program := "ytplalcciodbddaa", sum := "9641b729a4eec1c83ea6e98478baf924ec40014b358e75cc647f50e915114f76", func := "loop.example/circuitswitching/laws.FnExactDigitsOk", spec := "fnExactDigitsOk", apart := false, narrowed := true }
def FnExactDigitsOkUptoSaid : Prop := fnExactDigitsOkUptoRow.holds Try.pinned (OpenSpec.upto fnExactDigitsOkSpec)

/-- 'laws.FnExactLengthsValid', WHERE WHAT IT READS IS OF BULK AT MOST 1048576: true; the input reads as it did. -/
def fnExactLengthsValidUptoRow : OpenClaim := { program := "ytplalcciodbddaa", sum := "9641b729a4eec1c83ea6e98478baf924ec40014b358e75cc647f50e915114f76", func := "loop.example/circuitswitching/laws.FnExactLengthsValid", spec := "fnExactLengthsValid", apart := false, narrowed := true }
def FnExactLengthsValidUptoSaid : Prop := fnExactLengthsValidUptoRow.holds Try.pinned (OpenSpec.upto fnExactLengthsValidSpec)

/-- 'laws.FnExactOftenValid', WHERE WHAT IT READS IS OF BULK AT MOST 1048576: true; the input reads as it did. -/
def fnExactOftenValidUptoRow : OpenClaim := { program := "ytplalcciodbddaa", sum := "9641b729a4eec1c83ea6e98478baf924ec40014b358e75cc647f50e915114f76", func := "loop.example/circuitswitching/laws.FnExactOftenValid", spec := "fnExactOftenValid", apart := false, narrowed := true }
def FnExactOftenValidUptoSaid : Prop := fnExactOftenValidUptoRow.holds Try.pinned (OpenSpec.upto fnExactOftenValidSpec)

/-- 'laws.FnDigitsOk', WHERE WHAT IT READS IS OF BULK AT MOST 1048576: true; the input reads as it did. -/
def fnDigitsOkUptoRow : OpenClaim := { program := "ytplalcciodbddaa", sum := "9641b729a4eec1c83ea6e98478baf924ec40014b358e75cc647f50e915114f76", func := "loop.example/circuitswitching/laws.FnDigitsOk", spec := "fnDigitsOk", apart := false, narrowed := true }
def FnDigitsOkUptoSaid : Prop := fnDigitsOkUptoRow.holds Try.pinned (OpenSpec.upto fnDigitsOkSpec)

/-- 'laws.FnExactShareSum', WHERE WHAT IT READS IS OF BULK AT MOST 1048576: true; the input reads as it did. -/
def fnExactShareSumUptoRow : OpenClaim := { program := "ytplalcciodbddaa", sum := "9641b729a4eec1c83ea6e98478baf924ec40014b358e75cc647f50e915114f76", func := "loop.example/circuitswitching/laws.FnExactShareSum", spec := "fnExactShareSum", apart := false, narrowed := true }
def FnExactShareSumUptoSaid : Prop := fnExactShareSumUptoRow.holds Try.pinned (OpenSpec.upto fnExactShareSumSpec)

/-- 'laws.FnLengthsValid', WHERE WHAT IT READS IS OF BULK AT MOST 1048576: true; the input reads as it did. -/
def fnLengthsValidUptoRow : OpenClaim := { program := "ytplalcciodbddaa", sum := "9641b729a4eec1c83ea6e98478baf924ec40014b358e75cc647f50e915114f76", func := "loop.example/circuitswitching/laws.FnLengthsValid", spec := "fnLengthsValid", apart := false, narrowed := true }
def FnLengthsValidUptoSaid : Prop := fnLengthsValidUptoRow.holds Try.pinned (OpenSpec.upto fnLengthsValidSpec)

/-- 'laws.FnExactDialCost', WHERE WHAT IT READS IS OF BULK AT MOST 1048576: true; the input reads as it did. -/
def fnExactDialCostUptoRow : OpenClaim := { program := "ytplalcciodbddaa", sum := "9641b729a4eec1c83ea6e98478baf924ec40014b358e75cc647f50e915114f76", func := "loop.example/circuitswitching/laws.FnExactDialCost", spec := "fnExactDialCost", apart := false, narrowed := true }
def FnExactDialCostUptoSaid : Prop := fnExactDialCostUptoRow.holds Try.pinned (OpenSpec.upto fnExactDialCostSpec)

/-- 'laws.FnOftenValid', WHERE WHAT IT READS IS OF BULK AT MOST 1048576: true; the input reads as it did. -/
def fnOftenValidUptoRow : OpenClaim := { program := "ytplalcciodbddaa", sum := "9641b729a4eec1c83ea6e98478baf924ec40014b358e75cc647f50e915114f76", func := "loop.example/circuitswitching/laws.FnOftenValid", spec := "fnOftenValid", apart := false, narrowed := true }
def FnOftenValidUptoSaid : Prop := fnOftenValidUptoRow.holds Try.pinned (OpenSpec.upto fnOftenValidSpec)

/-- 'laws.FnExactPlanValid', WHERE WHAT IT READS IS OF BULK AT MOST 1048576: true; the input reads as it did. -/
def fnExactPlanValidUptoRow : OpenClaim := { program := "ytplalcciodbddaa", sum := "9641b729a4eec1c83ea6e98478baf924ec40014b358e75cc647f50e915114f76", func := "loop.example/circuitswitching/laws.FnExactPlanValid", spec := "fnExactPlanValid", apart := false, narrowed := true }
def FnExactPlanValidUptoSaid : Prop := fnExactPlanValidUptoRow.holds Try.pinned (OpenSpec.upto fnExactPlanValidSpec)

/-- 'laws.FnExactRoutesValid', WHERE WHAT IT READS IS OF BULK AT MOST 1048576: true; the input reads as it did. -/
def fnExactRoutesValidUptoRow : OpenClaim := { program := "ytplalcciodbddaa", sum := "9641b729a4eec1c83ea6e98478baf924ec40014b358e75cc647f50e915114f76", func := "loop.example/circuitswitching/laws.FnExactRoutesValid", spec := "fnExactRoutesValid", apart := false, narrowed := true }
def FnExactRoutesValidUptoSaid : Prop := fnExactRoutesValidUptoRow.holds Try.pinned (OpenSpec.upto fnExactRoutesValidSpec)

/-- 'laws.FnExactDialOne', WHERE WHAT IT READS IS OF BULK AT MOST 1048576: true; the input reads as it did. -/
def fnExactDialOneUptoRow : OpenClaim := { program := "ytplalcciodbddaa", sum := "9641b729a4eec1c83ea6e98478baf924ec40014b358e75cc647f50e915114f76", func := "loop.example/circuitswitching/laws.FnExactDialOne", spec := "fnExactDialOne", apart := false, narrowed := true }
def FnExactDialOneUptoSaid : Prop := fnExactDialOneUptoRow.holds Try.pinned (OpenSpec.upto fnExactDialOneSpec)

end Rows
end Go.Proofs.Ytplalcciodbddaa
