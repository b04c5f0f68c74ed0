/-
  No cell of these rows narrows 'for every input' (looked for: loops, veiled, ifaces, maps, wideKeys, modest, calm, conditions, laid).
  DERIVED. THE GIVEN ROWS OF THIS SEAT. 10 by the template 'for every input the law returns true; each argument reads behind the call as it read before'; 0 by the template 'total and deterministic' (their statements: YtcickfahpcmcdaaTotals.lean).
  GIVEN WITH THE SEED: the statements are not yours to turn. If you find one false, say at which input.
  Laid BY PROGRAM, IN A SANDBOX (cutbox-rows.mjs): the forced cells as the released guide's own fill.sh prints them over the translation 4b900dc8d4831080… (all of the seat's roots in one cut). By AI agents, Wed Nov 11 2026. No macro, syntax, notation, axiom, sorry.
-/
import Derived.Test.YtcickfahpcmcdaaChecked
import GoSem.Claim
import GoSem.ClaimJoined
import GoSem.ClaimMapViews
import Derived.JoinedTies
import Derived.KernelRfl
namespace Go.Proofs.Ytcickfahpcmcdaa
/- THE CELL 'sum', in the pinned program and in every row, IS THE sha256 OF THE DUMP (.gsa) THAT YtcickfahpcmcdaaProg.lean LOADS. Nothing in Lean hashes anything: it is a label: what it is worth is what the hold of that sum in a sandbox is worth. -/
noncomputable def Try.pinned : Pinned := { name := "ytcickfahpcmcdaa", sum := "4b900dc8d48310805e37071d2b9a2627522206cc446a6b94462a5355285dcd31", checked := Try.checked }
namespace Rows
def none {H : Type} : Left H := { results := [], args := [] }

/-- 'laws.FnCallMove': WHATEVER THE INPUT: true; the input reads as it did. -/
def fnCallMoveSpec : ChangeSpec := { name := "fnCallMove", fn := fun _ => fun
  | [d] => { results := [.lit (.bool true)], args := [d] }
  | _ => none }
def fnCallMoveRow : OpenClaim := { program := "ytcickfahpcmcdaa", sum := "4b900dc8d48310805e37071d2b9a2627522206cc446a6b94462a5355285dcd31", func := "loop.example/circuitswitching/laws.FnCallMove", spec := "fnCallMove", apart := false }
def FnCallMoveSaid : Prop := fnCallMoveRow.holds Try.pinned (OpenSpec.ofChange fnCallMoveSpec)

/-- ITS FALSE NEIGHBOUR: 'it returns false'. Refute it at one input. -/
def fnCallMoveWrong : ChangeSpec := { name := "fnCallMove", fn := fun _ => fun
  | [d] => { results := [.lit (.bool false)], args := [d] }
  | _ => none }
def FnCallMoveWrongFalsely : Prop := fnCallMoveRow.holds Try.pinned (OpenSpec.ofChange fnCallMoveWrong)

/-- 'laws.FnShapeValid': WHATEVER THE INPUT: true; the input reads as it did. -/
def fnShapeValidSpec : ChangeSpec := { name := "fnShapeValid", fn := fun _ => fun
  | [d] => { results := [.lit (.bool true)], args := [d] }
  | _ => none }
def fnShapeValidRow : OpenClaim := { program := "ytcickfahpcmcdaa", sum := "4b900dc8d48310805e37071d2b9a2627522206cc446a6b94462a5355285dcd31", func := "loop.example/circuitswitching/laws.FnShapeValid", spec := "fnShapeValid", apart := false }
def FnShapeValidSaid : Prop := fnShapeValidRow.holds Try.pinned (OpenSpec.ofChange fnShapeValidSpec)

/-- ITS FALSE NEIGHBOUR: 'it returns false'. Refute it at one input. -/
def fnShapeValidWrong : ChangeSpec := { name := "fnShapeValid", fn := fun _ => fun
  | [d] => { results := [.lit (.bool false)], args := [d] }
  | _ => none }
def FnShapeValidWrongFalsely : Prop := fnShapeValidRow.holds Try.pinned (OpenSpec.ofChange fnShapeValidWrong)

/-- 'laws.FnStrict': WHATEVER THE INPUT: true; the input reads as it did. -/
def fnStrictSpec : ChangeSpec := { name := "fnStrict", fn := fun _ => fun
  | [d] => { results := [.lit (.bool true)], args := [d] }
  | _ => none }
def fnStrictRow : OpenClaim := { program := "ytcickfahpcmcdaa", sum := "4b900dc8d48310805e37071d2b9a2627522206cc446a6b94462a5355285dcd31", func := "loop.example/circuitswitching/laws.FnStrict", spec := "fnStrict", apart := false }
def FnStrictSaid : Prop := fnStrictRow.holds Try.pinned (OpenSpec.ofChange fnStrictSpec)

/-- ITS FALSE NEIGHBOUR: 'it returns false'. Refute it at one input. -/
def fnStrictWrong : ChangeSpec := { name := "fnStrict", fn := fun _ => fun
  | [d] => { results := [.lit (.bool false)], args := [d] }
  | _ => none }
def FnStrictWrongFalsely : Prop := fnStrictRow.holds Try.pinned (OpenSpec.ofChange fnStrictWrong)

/-- 'laws.FnEnough': WHATEVER THE INPUT: true; the input reads as it did. -/
def fnEnoughSpec : ChangeSpec := { name := "fnEnough", fn := fun _ => fun
  | [d] => { results := [.lit (.bool true)], args := [d] }
  | _ => none }
def fnEnoughRow : OpenClaim := { program := "ytcickfahpcmcdaa", sum := "4b900dc8d48310805e37071d2b9a2627522206cc446a6b94462a5355285dcd31", func := "loop.example/circuitswitching/laws.FnEnough", spec := "fnEnough", apart := false }
def FnEnoughSaid : Prop := fnEnoughRow.holds Try.pinned (OpenSpec.ofChange fnEnoughSpec)

/-- ITS FALSE NEIGHBOUR: 'it returns false'. Refute it at one input. -/
def fnEnoughWrong : ChangeSpec := { name := "fnEnough", fn := fun _ => fun
  | [d] => { results := [.lit (.bool false)], args := [d] }
  | _ => none }
def FnEnoughWrongFalsely : Prop := fnEnoughRow.holds Try.pinned (OpenSpec.ofChange fnEnoughWrong)

/-- 'laws.FnCallsValid': WHATEVER THE INPUT: true; the input reads as it did. -/
def fnCallsValidSpec : ChangeSpec := { name := "fnCallsValid", fn := fun _ => fun
  | [d] => { results := [.lit (.bool true)], args := [d] }
  | _ => none }
def fnCallsValidRow : OpenClaim := { program := "ytcickfahpcmcdaa", sum := "4b900dc8d48310805e37071d2b9a2627522206cc446a6b94462a5355285dcd31", func := "loop.example/circuitswitching/laws.FnCallsValid", spec := "fnCallsValid", apart := false }
def FnCallsValidSaid : Prop := fnCallsValidRow.holds Try.pinned (OpenSpec.ofChange fnCallsValidSpec)

/-- ITS FALSE NEIGHBOUR: 'it returns false'. Refute it at one input. -/
def fnCallsValidWrong : ChangeSpec := { name := "fnCallsValid", fn := fun _ => fun
  | [d] => { results := [.lit (.bool false)], args := [d] }
  | _ => none }
def FnCallsValidWrongFalsely : Prop := fnCallsValidRow.holds Try.pinned (OpenSpec.ofChange fnCallsValidWrong)

/-- 'laws.FnCallsMoved': WHATEVER THE INPUT: true; the input reads as it did. -/
def fnCallsMovedSpec : ChangeSpec := { name := "fnCallsMoved", fn := fun _ => fun
  | [d] => { results := [.lit (.bool true)], args := [d] }
  | _ => none }
def fnCallsMovedRow : OpenClaim := { program := "ytcickfahpcmcdaa", sum := "4b900dc8d48310805e37071d2b9a2627522206cc446a6b94462a5355285dcd31", func := "loop.example/circuitswitching/laws.FnCallsMoved", spec := "fnCallsMoved", apart := false }
def FnCallsMovedSaid : Prop := fnCallsMovedRow.holds Try.pinned (OpenSpec.ofChange fnCallsMovedSpec)

/-- ITS FALSE NEIGHBOUR: 'it returns false'. Refute it at one input. -/
def fnCallsMovedWrong : ChangeSpec := { name := "fnCallsMoved", fn := fun _ => fun
  | [d] => { results := [.lit (.bool false)], args := [d] }
  | _ => none }
def FnCallsMovedWrongFalsely : Prop := fnCallsMovedRow.holds Try.pinned (OpenSpec.ofChange fnCallsMovedWrong)

/-- 'laws.FnCallDrop': WHATEVER THE INPUT: true; the input reads as it did. -/
def fnCallDropSpec : ChangeSpec := { name := "fnCallDrop", fn := fun _ => fun
  | [d] => { results := [.lit (.bool true)], args := [d] }
  | _ => none }
def fnCallDropRow : OpenClaim := { program := "ytcickfahpcmcdaa", sum := "4b900dc8d48310805e37071d2b9a2627522206cc446a6b94462a5355285dcd31", func := "loop.example/circuitswitching/laws.FnCallDrop", spec := "fnCallDrop", apart := false }
def FnCallDropSaid : Prop := fnCallDropRow.holds Try.pinned (OpenSpec.ofChange fnCallDropSpec)

/-- ITS FALSE NEIGHBOUR: 'it returns false'. Refute it at one input. -/
def fnCallDropWrong : ChangeSpec := { name := "fnCallDrop", fn := fun _ => fun
  | [d] => { results := [.lit (.bool false)], args := [d] }
  | _ => none }
def FnCallDropWrongFalsely : Prop := fnCallDropRow.holds Try.pinned (OpenSpec.ofChange fnCallDropWrong)

/-- 'laws.FnMiddleFree': WHATEVER THE INPUT: true; the input reads as it did. -/
def fnMiddleFreeSpec : ChangeSpec := { name := "fnMiddleFree", fn := fun _ => fun
  | [d] => { results := [.lit (.bool true)], args := [d] }
  | _ => none }
def fnMiddleFreeRow : OpenClaim := { program := "ytcickfahpcmcdaa", sum := "4b900dc8d48310805e37071d2b9a2627522206cc446a6b94462a5355285dcd31", func := "loop.example/circuitswitching/laws.FnMiddleFree", spec := "fnMiddleFree", apart := false }
def FnMiddleFreeSaid : Prop := fnMiddleFreeRow.holds Try.pinned (OpenSpec.ofChange fnMiddleFreeSpec)

/-- ITS FALSE NEIGHBOUR: 'it returns false'. Refute it at one input. -/
def fnMiddleFreeWrong : ChangeSpec := { name := "fnMiddleFree", fn := fun _ => fun
  | [d] => { results := [.lit (.bool false)], args := [d] }
  | _ => none }
def FnMiddleFreeWrongFalsely : Prop := fnMiddleFreeRow.holds Try.pinned (OpenSpec.ofChange fnMiddleFreeWrong)

/-- 'laws.FnRouteAll': WHATEVER THE INPUT: true; the input reads as it did. -/
def fnRouteAllSpec : ChangeSpec := { name := "fnRouteAll", fn := fun _ => fun
  | [d] => { results := [.lit (.bool true)], args := [d] }
  | _ => none }
def fnRouteAllRow : OpenClaim := { program := "ytcickfahpcmcdaa", sum := "4b900dc8d48310805e37071d2b9a2627522206cc446a6b94462a5355285dcd31", func := "loop.example/circuitswitching/laws.FnRouteAll", spec := "fnRouteAll", apart := false }
def FnRouteAllSaid : Prop := fnRouteAllRow.holds Try.pinned (OpenSpec.ofChange fnRouteAllSpec)

/-- ITS FALSE NEIGHBOUR: 'it returns false'. Refute it at one input. -/
def fnRouteAllWrong : ChangeSpec := { name := "fnRouteAll", fn := fun _ => fun
  | [d] => { results := [.lit (.bool false)], args := [d] }
  | _ => none }
def FnRouteAllWrongFalsely : Prop := fnRouteAllRow.holds Try.pinned (OpenSpec.ofChange fnRouteAllWrong)

/-- 'laws.FnCallPut': WHATEVER THE INPUT: true; the input reads as it did. -/
def fnCallPutSpec : ChangeSpec := { name := "fnCallPut", fn := fun _ => fun
  | [d] => { results := [.lit (.bool true)], args := [d] }
  | _ => none }
def fnCallPutRow : OpenClaim := { program := "ytcickfahpcmcdaa", sum := "4b900dc8d48310805e37071d2b9a2627522206cc446a6b94462a5355285dcd31", func := "loop.example/circuitswitching/laws.FnCallPut", spec := "fnCallPut", apart := false }
def FnCallPutSaid : Prop := fnCallPutRow.holds Try.pinned (OpenSpec.ofChange fnCallPutSpec)

/-- ITS FALSE NEIGHBOUR: 'it returns false'. Refute it at one input. -/
def fnCallPutWrong : ChangeSpec := { name := "fnCallPut", fn := fun _ => fun
  | [d] => { results := [.lit (.bool false)], args := [d] }
  | _ => none }
def FnCallPutWrongFalsely : Prop := fnCallPutRow.holds Try.pinned (OpenSpec.ofChange fnCallPutWrong)

/- THE SECOND FORM. 'bulk': how many values and letters a reading holds, each counted each time it is reached (what is shared counts as often as it is met; a slice's spare places count too). A statement '..UptoSaid' is the law's where the arguments, and the package variables that the reading takes, are together of bulk at most 1048576: NARROWER than '..Said'. Prove '..Said' where nothing that the law and all that it calls make is longer than what came in: it says more and counts as full. Else prove '..UptoSaid'. A law counts once. -/
mutual
def uptoBulk {H : Type} : DataW H → Nat
  | .lit (.string bytes) => bytes.length + 1
  | .lit _ => 1
  | .nil => 1
  | .ptr d => uptoBulk d + 1
  | .slice elems spare => uptoBulkAll elems + uptoBulkAll spare + 1
  | .agg parts => uptoBulkAll parts + 1
  | .iface _ d => uptoBulk d + 1
  | .map entries => uptoBulkEntries entries + 1
  | .held _ => 1
def uptoBulkAll {H : Type} : List (DataW H) → Nat
  | [] => 0
  | d :: r => uptoBulk d + uptoBulkAll r
def uptoBulkEntries {H : Type} : List (Lit × DataW H) → Nat
  | [] => 0
  | x :: r => uptoBulkEntry x + uptoBulkEntries r
def uptoBulkEntry {H : Type} : Lit × DataW H → Nat
  | (.string bytes, d) => bytes.length + uptoBulk d + 1
  | (_, d) => uptoBulk d + 1
 end
def uptoSmall : (H : Type) → List (DataW H) → Bool := fun _ ds => decide (uptoBulkAll ds ≤ 1048576)
def OpenSpec.upto (s : _root_.Go.ChangeSpec) : _root_.Go.OpenSpec := { _root_.Go.OpenSpec.ofChange s with cond := some uptoSmall }

/-- 'laws.FnCallMove', WHERE WHAT IT READS IS OF BULK AT MOST 1048576: true; the input reads as it did. -/
def fnCallMoveUptoRow : OpenClaim := { program := "ytcickfahpcmcdaa", sum := "4b900dc8d48310805e37071d2b9a2627522206cc446a6b94462a5355285dcd31", func := "loop.example/circuitswitching/laws.FnCallMove", spec := "fnCallMove", apart := false, narrowed := true }
def FnCallMoveUptoSaid : Prop := fnCallMoveUptoRow.holds Try.pinned (OpenSpec.upto fnCallMoveSpec)

/-- 'laws.FnShapeValid', WHERE WHAT IT READS IS OF BULK AT MOST 1048576: true; the input reads as it did. -/
def fnShapeValidUptoRow : OpenClaim := { program := "ytcickfahpcmcdaa", sum := "4b900dc8d48310805e37071d2b9a2627522206cc446a6b94462a5355285dcd31", func := "loop.example/circuitswitching/laws.FnShapeValid", spec := "fnShapeValid", apart := false, narrowed := true }
def FnShapeValidUptoSaid : Prop := fnShapeValidUptoRow.holds Try.pinned (OpenSpec.upto fnShapeValidSpec)

/-- 'laws.FnStrict', WHERE WHAT IT READS IS OF BULK AT MOST 1048576: true; the input reads as it did. -/
def fnStrictUptoRow : OpenClaim := { program := "ytcickfahpcmcdaa", sum := "4b900dc8d48310805e37071d2b9a2627522206cc446a6b94462a5355285dcd31", func := "loop.example/circuitswitching/laws.FnStrict", spec := "fnStrict", apart := false, narrowed := true }
def FnStrictUptoSaid : Prop := fnStrictUptoRow.holds Try.pinned (OpenSpec.upto fnStrictSpec)

/-- 'laws.FnEnough', WHERE WHAT IT READS IS OF BULK AT MOST 1048576: true; the input reads as it did. -/
def fnEnoughUptoRow : OpenClaim := { program := "ytcickfahpcmcdaa", sum := "4b900dc8d48310805e37071d2b9a2627522206cc446a6b94462a5355285dcd31", func := "loop.example/circuitswitching/laws.FnEnough", spec := "fnEnough", apart := false, narrowed := true }
def FnEnoughUptoSaid : Prop := fnEnoughUptoRow.holds Try.pinned (OpenSpec.upto fnEnoughSpec)

/-- 'laws.FnCallsValid', WHERE WHAT IT READS IS OF BULK AT MOST 1048576: true; the input reads as it did. -/
def fnCallsValidUptoRow : OpenClaim := { program := "ytcickfahpcmcdaa", sum := "4b900dc8d48310805e37071d2b9a2627522206cc446a6b94462a5355285dcd31", func := "loop.example/circuitswitching/laws.FnCallsValid", spec := "fnCallsValid", apart := false, narrowed := true }
def FnCallsValidUptoSaid : Prop := fnCallsValidUptoRow.holds Try.pinned (OpenSpec.upto fnCallsValidSpec)

/-- 'laws.FnCallsMoved', WHERE WHAT IT READS IS OF BULK AT MOST 1048576: true; the input reads as it did. -/
def fnCallsMovedUptoRow : OpenClaim := { program := "ytcickfahpcmcdaa", sum := "4b900dc8d48310805e37071d2b9a2627522206cc446a6b94462a5355285dcd31", func := "loop.example/circuitswitching/laws.FnCallsMoved", spec := "fnCallsMoved", apart := false, narrowed := true }
def FnCallsMovedUptoSaid : Prop := fnCallsMovedUptoRow.holds Try.pinned (OpenSpec.upto fnCallsMovedSpec)

/-- 'laws.FnCallDrop', WHERE WHAT IT READS IS OF BULK AT MOST 1048576: true; the input reads as it did. -/
def fnCallDropUptoRow : OpenClaim := { program := "ytcickfahpcmcdaa", sum := "4b900dc8d48310805e37071d2b9a2627522206cc446a6b94462a5355285dcd31", func := "loop.example/circuitswitching/laws.FnCallDrop", spec := "fnCallDrop", apart := false, narrowed := true }
def FnCallDropUptoSaid : Prop := fnCallDropUptoRow.holds Try.pinned (OpenSpec.upto fnCallDropSpec)

/-- 'laws.FnMiddleFree', WHERE WHAT IT READS IS OF BULK AT MOST 1048576: true; the input reads as it did. -/
def fnMiddleFreeUptoRow : OpenClaim := { program := "ytcickfahpcmcdaa", sum := "4b900dc8d48310805e37071d2b9a2627522206cc446a6b94462a5355285dcd31", func := "loop.example/circuitswitching/laws.FnMiddleFree", spec := "fnMiddleFree", apart := false, narrowed := true }
def FnMiddleFreeUptoSaid : Prop := fnMiddleFreeUptoRow.holds Try.pinned (OpenSpec.upto fnMiddleFreeSpec)

/-- 'laws.FnRouteAll', WHERE WHAT IT READS IS OF BULK AT MOST 1048576: true; the input reads as it did. -/
def fnRouteAllUptoRow : OpenClaim := { program := "ytcickfahpcmcdaa", sum := "4b900dc8d48310805e37071d2b9a2627522206cc446a6b94462a5355285dcd31", func := "loop.example/circuitswitching/laws.FnRouteAll", spec := "fnRouteAll", apart := false, narrowed := true }
def FnRouteAllUptoSaid : Prop := fnRouteAllUptoRow.holds Try.pinned (OpenSpec.upto fnRouteAllSpec)

/-- 'laws.FnCallPut', WHERE WHAT IT READS IS OF BULK AT MOST 1048576: true; the input reads as it did. -/
def fnCallPutUptoRow : OpenClaim := { program := "ytcickfahpcmcdaa", sum := "4b900dc8d48310805e37071d2b9a2627522206cc446a6b94462a5355285dcd31", func := "loop.example/circuitswitching/laws.FnCallPut", spec := "fnCallPut", apart := false, narrowed := true }
def FnCallPutUptoSaid : Prop := fnCallPutUptoRow.holds Try.pinned (OpenSpec.upto fnCallPutSpec)

end Rows
end Go.Proofs.Ytcickfahpcmcdaa
