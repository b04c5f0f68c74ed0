/-
  No cell of these rows narrows 'for every input' (looked for: loops, veiled, ifaces, maps, wideKeys, modest, calm, conditions, laid).
  DERIVED. THE GIVEN ROWS OF THIS SEAT. 10 by the template 'for every input the law returns true; each argument reads behind the call as it read before'; 0 by the template 'total and deterministic' (their statements: YtldbbphpikdfdaaTotals.lean).
  GIVEN WITH THE SEED: the statements are not yours to turn. If you find one false, say at which input.
  Laid BY PROGRAM, IN A SANDBOX (cutbox-rows.mjs): the forced cells as the released guide's own fill.sh prints them over the translation 06c6db615064c390… (all of the seat's roots in one cut). By AI agents, Wed Nov 11 2026. No macro, syntax, notation, axiom, sorry.
-/
import Derived.Test.YtldbbphpikdfdaaChecked
import GoSem.Claim
import GoSem.ClaimJoined
import GoSem.ClaimMapViews
import Derived.JoinedTies
import Derived.KernelRfl
namespace Go.Proofs.Ytldbbphpikdfdaa
/- THE CELL 'sum', in the pinned program and in every row, IS THE sha256 OF THE DUMP (.gsa) THAT YtldbbphpikdfdaaProg.lean LOADS. Nothing in Lean hashes anything: it is a label: what it is worth is what the hold of that sum in a sandbox is worth. -/
noncomputable def Try.pinned : Pinned := { name := "ytldbbphpikdfdaa", sum := "06c6db615064c3909a062eb31a0a6dd4f1fdf9c0a04c6e4d803270ec1e748609", checked := Try.checked }
namespace Rows
def none {H : Type} : Left H := { results := [], args := [] }

/-- 'laws.FnExactShapeValid': WHATEVER THE INPUT: true; the input reads as it did. -/
def fnExactShapeValidSpec : ChangeSpec := { name := "fnExactShapeValid", fn := fun _ => fun
  | [d] => { results := [.lit (.bool true)], args := [d] }
  | _ => none }
def fnExactShapeValidRow : OpenClaim := { program := "ytldbbphpikdfdaa", sum := "06c6db615064c3909a062eb31a0a6dd4f1fdf9c0a04c6e4d803270ec1e748609", func := "loop.example/circuitswitching/laws.FnExactShapeValid", spec := "fnExactShapeValid", apart := false }
def FnExactShapeValidSaid : Prop := fnExactShapeValidRow.holds Try.pinned (OpenSpec.ofChange fnExactShapeValidSpec)

/-- ITS FALSE NEIGHBOUR: 'it returns false'. Refute it at one input. -/
def fnExactShapeValidWrong : ChangeSpec := { name := "fnExactShapeValid", fn := fun _ => fun
  | [d] => { results := [.lit (.bool false)], args := [d] }
  | _ => none }
def FnExactShapeValidWrongFalsely : Prop := fnExactShapeValidRow.holds Try.pinned (OpenSpec.ofChange fnExactShapeValidWrong)

/-- 'laws.FnExactEnough': WHATEVER THE INPUT: true; the input reads as it did. -/
def fnExactEnoughSpec : ChangeSpec := { name := "fnExactEnough", fn := fun _ => fun
  | [d] => { results := [.lit (.bool true)], args := [d] }
  | _ => none }
def fnExactEnoughRow : OpenClaim := { program := "ytldbbphpikdfdaa", sum := "06c6db615064c3909a062eb31a0a6dd4f1fdf9c0a04c6e4d803270ec1e748609", func := "loop.example/circuitswitching/laws.FnExactEnough", spec := "fnExactEnough", apart := false }
def FnExactEnoughSaid : Prop := fnExactEnoughRow.holds Try.pinned (OpenSpec.ofChange fnExactEnoughSpec)

/-- ITS FALSE NEIGHBOUR: 'it returns false'. Refute it at one input. -/
def fnExactEnoughWrong : ChangeSpec := { name := "fnExactEnough", fn := fun _ => fun
  | [d] => { results := [.lit (.bool false)], args := [d] }
  | _ => none }
def FnExactEnoughWrongFalsely : Prop := fnExactEnoughRow.holds Try.pinned (OpenSpec.ofChange fnExactEnoughWrong)

/-- 'laws.FnExactStrict': WHATEVER THE INPUT: true; the input reads as it did. -/
def fnExactStrictSpec : ChangeSpec := { name := "fnExactStrict", fn := fun _ => fun
  | [d] => { results := [.lit (.bool true)], args := [d] }
  | _ => none }
def fnExactStrictRow : OpenClaim := { program := "ytldbbphpikdfdaa", sum := "06c6db615064c3909a062eb31a0a6dd4f1fdf9c0a04c6e4d803270ec1e748609", func := "loop.example/circuitswitching/laws.FnExactStrict", spec := "fnExactStrict", apart := false }
def FnExactStrictSaid : Prop := fnExactStrictRow.holds Try.pinned (OpenSpec.ofChange fnExactStrictSpec)

/-- ITS FALSE NEIGHBOUR: 'it returns false'. Refute it at one input. -/
def fnExactStrictWrong : ChangeSpec := { name := "fnExactStrict", fn := fun _ => fun
  | [d] => { results := [.lit (.bool false)], args := [d] }
  | _ => none }
def FnExactStrictWrongFalsely : Prop := fnExactStrictRow.holds Try.pinned (OpenSpec.ofChange fnExactStrictWrong)

/-- 'laws.FnExactCallsMoved': WHATEVER THE INPUT: true; the input reads as it did. -/
def fnExactCallsMovedSpec : ChangeSpec := { name := "fnExactCallsMoved", fn := fun _ => fun
  | [d1, d2] => { results := [.lit (.bool true)], args := [d1, d2] }
  | _ => none }
def fnExactCallsMovedRow : OpenClaim := { program := "ytldbbphpikdfdaa", sum := "06c6db615064c3909a062eb31a0a6dd4f1fdf9c0a04c6e4d803270ec1e748609", func := "loop.example/circuitswitching/laws.FnExactCallsMoved", spec := "fnExactCallsMoved", apart := false }
def FnExactCallsMovedSaid : Prop := fnExactCallsMovedRow.holds Try.pinned (OpenSpec.ofChange fnExactCallsMovedSpec)

/-- ITS FALSE NEIGHBOUR: 'it returns false'. Refute it at one input. -/
def fnExactCallsMovedWrong : ChangeSpec := { name := "fnExactCallsMoved", fn := fun _ => fun
  | [d1, d2] => { results := [.lit (.bool false)], args := [d1, d2] }
  | _ => none }
def FnExactCallsMovedWrongFalsely : Prop := fnExactCallsMovedRow.holds Try.pinned (OpenSpec.ofChange fnExactCallsMovedWrong)

/-- 'laws.FnExactCallsValid': WHATEVER THE INPUT: true; the input reads as it did. -/
def fnExactCallsValidSpec : ChangeSpec := { name := "fnExactCallsValid", fn := fun _ => fun
  | [d1, d2] => { results := [.lit (.bool true)], args := [d1, d2] }
  | _ => none }
def fnExactCallsValidRow : OpenClaim := { program := "ytldbbphpikdfdaa", sum := "06c6db615064c3909a062eb31a0a6dd4f1fdf9c0a04c6e4d803270ec1e748609", func := "loop.example/circuitswitching/laws.FnExactCallsValid", spec := "fnExactCallsValid", apart := false }
def FnExactCallsValidSaid : Prop := fnExactCallsValidRow.holds Try.pinned (OpenSpec.ofChange fnExactCallsValidSpec)

/-- ITS FALSE NEIGHBOUR: 'it returns false'. Refute it at one input. -/
def fnExactCallsValidWrong : ChangeSpec := { name := "fnExactCallsValid", fn := fun _ => fun
  | [d1, d2] => { results := [.lit (.bool false)], args := [d1, d2] }
  | _ => none }
def FnExactCallsValidWrongFalsely : Prop := fnExactCallsValidRow.holds Try.pinned (OpenSpec.ofChange fnExactCallsValidWrong)

/-- 'laws.FnExactCallDrop': WHATEVER THE INPUT: true; the input reads as it did. -/
def fnExactCallDropSpec : ChangeSpec := { name := "fnExactCallDrop", fn := fun _ => fun
  | [d1, d2, d3] => { results := [.lit (.bool true)], args := [d1, d2, d3] }
  | _ => none }
def fnExactCallDropRow : OpenClaim := { program := "ytldbbphpikdfdaa", sum := "06c6db615064c3909a062eb31a0a6dd4f1fdf9c0a04c6e4d803270ec1e748609", func := "loop.example/circuitswitching/laws.FnExactCallDrop", spec := "fnExactCallDrop", apart := false }
def FnExactCallDropSaid : Prop := fnExactCallDropRow.holds Try.pinned (OpenSpec.ofChange fnExactCallDropSpec)

/-- ITS FALSE NEIGHBOUR: 'it returns false'. Refute it at one input. -/
def fnExactCallDropWrong : ChangeSpec := { name := "fnExactCallDrop", fn := fun _ => fun
  | [d1, d2, d3] => { results := [.lit (.bool false)], args := [d1, d2, d3] }
  | _ => none }
def FnExactCallDropWrongFalsely : Prop := fnExactCallDropRow.holds Try.pinned (OpenSpec.ofChange fnExactCallDropWrong)

/-- 'laws.FnExactMiddleFree': WHATEVER THE INPUT: true; the input reads as it did. -/
def fnExactMiddleFreeSpec : ChangeSpec := { name := "fnExactMiddleFree", fn := fun _ => fun
  | [d1, d2, d3, d4] => { results := [.lit (.bool true)], args := [d1, d2, d3, d4] }
  | _ => none }
def fnExactMiddleFreeRow : OpenClaim := { program := "ytldbbphpikdfdaa", sum := "06c6db615064c3909a062eb31a0a6dd4f1fdf9c0a04c6e4d803270ec1e748609", func := "loop.example/circuitswitching/laws.FnExactMiddleFree", spec := "fnExactMiddleFree", apart := false }
def FnExactMiddleFreeSaid : Prop := fnExactMiddleFreeRow.holds Try.pinned (OpenSpec.ofChange fnExactMiddleFreeSpec)

/-- ITS FALSE NEIGHBOUR: 'it returns false'. Refute it at one input. -/
def fnExactMiddleFreeWrong : ChangeSpec := { name := "fnExactMiddleFree", fn := fun _ => fun
  | [d1, d2, d3, d4] => { results := [.lit (.bool false)], args := [d1, d2, d3, d4] }
  | _ => none }
def FnExactMiddleFreeWrongFalsely : Prop := fnExactMiddleFreeRow.holds Try.pinned (OpenSpec.ofChange fnExactMiddleFreeWrong)

/-- 'laws.FnExactCallPut': WHATEVER THE INPUT: true; the input reads as it did. -/
def fnExactCallPutSpec : ChangeSpec := { name := "fnExactCallPut", fn := fun _ => fun
  | [d1, d2, d3, d4] => { results := [.lit (.bool true)], args := [d1, d2, d3, d4] }
  | _ => none }
def fnExactCallPutRow : OpenClaim := { program := "ytldbbphpikdfdaa", sum := "06c6db615064c3909a062eb31a0a6dd4f1fdf9c0a04c6e4d803270ec1e748609", func := "loop.example/circuitswitching/laws.FnExactCallPut", spec := "fnExactCallPut", apart := false }
def FnExactCallPutSaid : Prop := fnExactCallPutRow.holds Try.pinned (OpenSpec.ofChange fnExactCallPutSpec)

/-- ITS FALSE NEIGHBOUR: 'it returns false'. Refute it at one input. -/
def fnExactCallPutWrong : ChangeSpec := { name := "fnExactCallPut", fn := fun _ => fun
  | [d1, d2, d3, d4] => { results := [.lit (.bool false)], args := [d1, d2, d3, d4] }
  | _ => none }
def FnExactCallPutWrongFalsely : Prop := fnExactCallPutRow.holds Try.pinned (OpenSpec.ofChange fnExactCallPutWrong)

/-- 'laws.FnExactCallMove': WHATEVER THE INPUT: true; the input reads as it did. -/
def fnExactCallMoveSpec : ChangeSpec := { name := "fnExactCallMove", fn := fun _ => fun
  | [d1, d2, d3, d4] => { results := [.lit (.bool true)], args := [d1, d2, d3, d4] }
  | _ => none }
def fnExactCallMoveRow : OpenClaim := { program := "ytldbbphpikdfdaa", sum := "06c6db615064c3909a062eb31a0a6dd4f1fdf9c0a04c6e4d803270ec1e748609", func := "loop.example/circuitswitching/laws.FnExactCallMove", spec := "fnExactCallMove", apart := false }
def FnExactCallMoveSaid : Prop := fnExactCallMoveRow.holds Try.pinned (OpenSpec.ofChange fnExactCallMoveSpec)

/-- ITS FALSE NEIGHBOUR: 'it returns false'. Refute it at one input. -/
def fnExactCallMoveWrong : ChangeSpec := { name := "fnExactCallMove", fn := fun _ => fun
  | [d1, d2, d3, d4] => { results := [.lit (.bool false)], args := [d1, d2, d3, d4] }
  | _ => none }
def FnExactCallMoveWrongFalsely : Prop := fnExactCallMoveRow.holds Try.pinned (OpenSpec.ofChange fnExactCallMoveWrong)

/-- 'laws.FnExactRouteAll': WHATEVER THE INPUT: true; the input reads as it did. -/
def fnExactRouteAllSpec : ChangeSpec := { name := "fnExactRouteAll", fn := fun _ => fun
  | [d1, d2] => { results := [.lit (.bool true)], args := [d1, d2] }
  | _ => none }
def fnExactRouteAllRow : OpenClaim := { program := "ytldbbphpikdfdaa", sum := "06c6db615064c3909a062eb31a0a6dd4f1fdf9c0a04c6e4d803270ec1e748609", func := "loop.example/circuitswitching/laws.FnExactRouteAll", spec := "fnExactRouteAll", apart := false }
def FnExactRouteAllSaid : Prop := fnExactRouteAllRow.holds Try.pinned (OpenSpec.ofChange fnExactRouteAllSpec)

/-- ITS FALSE NEIGHBOUR: 'it returns false'. Refute it at one input. -/
def fnExactRouteAllWrong : ChangeSpec := { name := "fnExactRouteAll", fn := fun _ => fun
  | [d1, d2] => { results := [.lit (.bool false)], args := [d1, d2] }
  | _ => none }
def FnExactRouteAllWrongFalsely : Prop := fnExactRouteAllRow.holds Try.pinned (OpenSpec.ofChange fnExactRouteAllWrong)

/- THE SECOND FORM. 'bulk': how many values and letters a reading holds, each counted each time it is reached (what is shared counts as often as it is met; a slice's spare places count too). A statement '..UptoSaid' is the law's where the arguments, and the package variables that the reading takes, are together of bulk at most 1048576: NARROWER than '..Said'. Prove '..Said' where nothing that the law and all that it calls make is longer than what came in: it says more and counts as full. Else prove '..UptoSaid'. A law counts once. -/
mutual
def uptoBulk {H : Type} : DataW H → Nat
  | .lit (.string bytes) => bytes.length + 1
  | .lit _ => 1
  | .nil => 1
  | .ptr d => uptoBulk d + 1
  | .slice elems spare => uptoBulkAll elems + uptoBulkAll spare + 1
  | .agg parts => uptoBulkAll parts + 1
  | .iface _ d => uptoBulk d + 1
  | .map entries => uptoBulkEntries entries + 1
  | .held _ => 1
def uptoBulkAll {H : Type} : List (DataW H) → Nat
  | [] => 0
  | d :: r => uptoBulk d + uptoBulkAll r
def uptoBulkEntries {H : Type} : List (Lit × DataW H) → Nat
  | [] => 0
  | x :: r => uptoBulkEntry x + uptoBulkEntries r
def uptoBulkEntry {H : Type} : Lit × DataW H → Nat
  | (.string bytes, d) => bytes.length + uptoBulk d + 1
  | (_, d) => uptoBulk d + 1
 end
def uptoSmall : (H : Type) → List (DataW H) → Bool := fun _ ds => decide (uptoBulkAll ds ≤ 1048576)
def OpenSpec.upto (s : _root_.Go.ChangeSpec) : _root_.Go.OpenSpec := { _root_.Go.OpenSpec.ofChange s with cond := some uptoSmall }

/-- 'laws.FnExactShapeValid', WHERE WHAT IT READS IS OF BULK AT MOST 1048576: true; the input reads as it did. -/
def fnExactShapeValidUptoRow : OpenClaim := { program := "ytldbbphpikdfdaa", sum := "06c6db615064c3909a062eb31a0a6dd4f1fdf9c0a04c6e4d803270ec1e748609", func := "loop.example/circuitswitching/laws.FnExactShapeValid", spec := "fnExactShapeValid", apart := false, narrowed := true }
def FnExactShapeValidUptoSaid : Prop := fnExactShapeValidUptoRow.holds Try.pinned (OpenSpec.upto fnExactShapeValidSpec)

/-- 'laws.FnExactEnough', WHERE WHAT IT READS IS OF BULK AT MOST 1048576: true; the input reads as it did. -/
def fnExactEnoughUptoRow : OpenClaim := { program := "ytldbbphpikdfdaa", sum := "06c6db615064c3909a062eb31a0a6dd4f1fdf9c0a04c6e4d803270ec1e748609", func := "loop.example/circuitswitching/laws.FnExactEnough", spec := "fnExactEnough", apart := false, narrowed := true }
def FnExactEnoughUptoSaid : Prop := fnExactEnoughUptoRow.holds Try.pinned (OpenSpec.upto fnExactEnoughSpec)

/-- 'laws.FnExactStrict', WHERE WHAT IT READS IS OF BULK AT MOST 1048576: true; the input reads as it did. -/
def fnExactStrictUptoRow : OpenClaim := { program := "ytldbbphpikdfdaa", sum := "06c6db615064c3909a062eb31a0a6dd4f1fdf9c0a04c6e4d803270ec1e748609", func := "loop.example/circuitswitching/laws.FnExactStrict", spec := "fnExactStrict", apart := false, narrowed := true }
def FnExactStrictUptoSaid : Prop := fnExactStrictUptoRow.holds Try.pinned (OpenSpec.upto fnExactStrictSpec)

/-- 'laws.FnExactCallsMoved', WHERE WHAT IT READS IS OF BULK AT MOST 1048576: true; the input reads as it did. -/
def fnExactCallsMovedUptoRow : OpenClaim := { program := "ytldbbphpikdfdaa", sum := "06c6db615064c3909a062eb31a0a6dd4f1fdf9c0a04c6e4d803270ec1e748609", func := "loop.example/circuitswitching/laws.FnExactCallsMoved", spec := "fnExactCallsMoved", apart := false, narrowed := true }
def FnExactCallsMovedUptoSaid : Prop := fnExactCallsMovedUptoRow.holds Try.pinned (OpenSpec.upto fnExactCallsMovedSpec)

/-- 'laws.FnExactCallsValid', WHERE WHAT IT READS IS OF BULK AT MOST 1048576: true; the input reads as it did. -/
def fnExactCallsValidUptoRow : OpenClaim := { program := "ytldbbphpikdfdaa", sum := "06c6db615064c3909a062eb31a0a6dd4f1fdf9c0a04c6e4d803270ec1e748609", func := "loop.example/circuitswitching/laws.FnExactCallsValid", spec := "fnExactCallsValid", apart := false, narrowed := true }
def FnExactCallsValidUptoSaid : Prop := fnExactCallsValidUptoRow.holds Try.pinned (OpenSpec.upto fnExactCallsValidSpec)

/-- 'laws.FnExactCallDrop', WHERE WHAT IT READS IS OF BULK AT MOST 1048576: true; the input reads as it did. -/
def fnExactCallDropUptoRow : OpenClaim := { program := "ytldbbphpikdfdaa", sum := "06c6db615064c3909a062eb31a0a6dd4f1fdf9c0a04c6e4d803270ec1e748609", func := "loop.example/circuitswitching/laws.FnExactCallDrop", spec := "fnExactCallDrop", apart := false, narrowed := true }
def FnExactCallDropUptoSaid : Prop := fnExactCallDropUptoRow.holds Try.pinned (OpenSpec.upto fnExactCallDropSpec)

/-- 'laws.FnExactMiddleFree', WHERE WHAT IT READS IS OF BULK AT MOST 1048576: true; the input reads as it did. -/
def fnExactMiddleFreeUptoRow : OpenClaim := { program := "ytldbbphpikdfdaa", sum := "06c6db615064c3909a062eb31a0a6dd4f1fdf9c0a04c6e4d803270ec1e748609", func := "loop.example/circuitswitching/laws.FnExactMiddleFree", spec := "fnExactMiddleFree", apart := false, narrowed := true }
def FnExactMiddleFreeUptoSaid : Prop := fnExactMiddleFreeUptoRow.holds Try.pinned (OpenSpec.upto fnExactMiddleFreeSpec)

/-- 'laws.FnExactCallPut', WHERE WHAT IT READS IS OF BULK AT MOST 1048576: true; the input reads as it did. -/
def fnExactCallPutUptoRow : OpenClaim := { program := "ytldbbphpikdfdaa", sum := "06c6db615064c3909a062eb31a0a6dd4f1fdf9c0a04c6e4d803270ec1e748609", func := "loop.example/circuitswitching/laws.FnExactCallPut", spec := "fnExactCallPut", apart := false, narrowed := true }
def FnExactCallPutUptoSaid : Prop := fnExactCallPutUptoRow.holds Try.pinned (OpenSpec.upto fnExactCallPutSpec)

/-- 'laws.FnExactCallMove', WHERE WHAT IT READS IS OF BULK AT MOST 1048576: true; the input reads as it did. -/
def fnExactCallMoveUptoRow : OpenClaim := { program := "ytldbbphpikdfdaa", sum := "06c6db615064c3909a062eb31a0a6dd4f1fdf9c0a04c6e4d803270ec1e748609", func := "loop.example/circuitswitching/laws.FnExactCallMove", spec := "fnExactCallMove", apart := false, narrowed := true }
def FnExactCallMoveUptoSaid : Prop := fnExactCallMoveUptoRow.holds Try.pinned (OpenSpec.upto fnExactCallMoveSpec)

/-- 'laws.FnExactRouteAll', WHERE WHAT IT READS IS OF BULK AT MOST 1048576: true; the input reads as it did. -/
def fnExactRouteAllUptoRow : OpenClaim := { program := "ytldbbphpikdfdaa", sum := "06c6db615064c3909a062eb31a0a6dd4f1fdf9c0a04c6e4d803270ec1e748609", func := "loop.example/circuitswitching/laws.FnExactRouteAll", spec := "fnExactRouteAll", apart := false, narrowed := true }
def FnExactRouteAllUptoSaid : Prop := fnExactRouteAllUptoRow.holds Try.pinned (OpenSpec.upto fnExactRouteAllSpec)

end Rows
end Go.Proofs.Ytldbbphpikdfdaa
