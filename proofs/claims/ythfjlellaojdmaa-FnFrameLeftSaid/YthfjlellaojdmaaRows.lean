/-
  No cell of these rows narrows 'for every input' (looked for: loops, veiled, ifaces, maps, wideKeys, modest, calm, conditions, laid).
  DERIVED. THE GIVEN ROWS OF THIS SEAT. 7 by the template 'for every input the law returns true; each argument reads behind the call as it read before'; 0 by the template 'total and deterministic' (their statements: YthfjlellaojdmaaTotals.lean).
  GIVEN WITH THE SEED: the statements are not yours to turn. If you find one false, say at which input.
  Laid BY PROGRAM, IN A SANDBOX (cutbox-rows.mjs): the forced cells as the released guide's own fill.sh prints them over the translation cdebe4066931b72f… (all of the seat's roots in one cut). By AI agents, Wed Nov 11 2026. No macro, syntax, notation, axiom, sorry.
-/
import Derived.Test.YthfjlellaojdmaaChecked
import GoSem.Claim
import GoSem.ClaimJoined
import GoSem.ClaimMapViews
import Derived.JoinedTies
import Derived.KernelRfl
namespace Go.Proofs.Ythfjlellaojdmaa
/- THE CELL 'sum', in the pinned program and in every row, IS THE sha256 OF THE DUMP (.gsa) THAT YthfjlellaojdmaaProg.lean LOADS. Nothing in Lean hashes anything: it is a label: what it is worth is what the hold of that sum in a sandbox is worth. -/
noncomputable def Try.pinned : Pinned := { name := "ythfjlellaojdmaa", sum := "cdebe4066931b72f6a269cd075788a37129fe2f645ac7276f6b033654480a168", checked := Try.checked }
namespace Rows
def none {H : Type} : Left H := { results := [], args := [] }

/-- 'laws.FnFrameOk': WHATEVER THE INPUT: true; the input reads as it did. -/
def fnFrameOkSpec : ChangeSpec := { name := "fnFrameOk", fn := fun _ => fun
  | [d] => { results := [.lit (.bool true)], args := [d] }
  | _ => none }
def fnFrameOkRow : OpenClaim := { program := "ythfjlellaojdmaa", sum := "cdebe4066931b72f6a269cd075788a37129fe2f645ac7276f6b033654480a168", func := "loop.example/circuitswitching/laws.FnFrameOk", spec := "fnFrameOk", apart := false }
def FnFrameOkSaid : Prop := fnFrameOkRow.holds Try.pinned (OpenSpec.ofChange fnFrameOkSpec)

/-- ITS FALSE NEIGHBOUR: 'it returns false'. Refute it at one input. -/
def fnFrameOkWrong : ChangeSpec := { name := "fnFrameOk", fn := fun _ => fun
  | [d] => { results := [.lit (.bool false)], args := [d] }
  | _ => none }
def FnFrameOkWrongFalsely : Prop := fnFrameOkRow.holds Try.pinned (OpenSpec.ofChange fnFrameOkWrong)

/-- 'laws.FnFrameBest': WHATEVER THE INPUT: true; the input reads as it did. -/
def fnFrameBestSpec : ChangeSpec := { name := "fnFrameBest", fn := fun _ => fun
  | [d] => { results := [.lit (.bool true)], args := [d] }
  | _ => none }
def fnFrameBestRow : OpenClaim := { program := "ythfjlellaojdmaa", sum := "cdebe4066931b72f6a269cd075788a37129fe2f645ac7276f6b033654480a168", func := "loop.example/circuitswitching/laws.FnFrameBest", spec := "fnFrameBest", recurses := true, apart := false }
def FnFrameBestSaid : Prop := fnFrameBestRow.holds Try.pinned (OpenSpec.ofChange fnFrameBestSpec)

/-- ITS FALSE NEIGHBOUR: 'it returns false'. Refute it at one input. -/
def fnFrameBestWrong : ChangeSpec := { name := "fnFrameBest", fn := fun _ => fun
  | [d] => { results := [.lit (.bool false)], args := [d] }
  | _ => none }
def FnFrameBestWrongFalsely : Prop := fnFrameBestRow.holds Try.pinned (OpenSpec.ofChange fnFrameBestWrong)

/-- 'laws.FnTrafficAll': WHATEVER THE INPUT: true; the input reads as it did. -/
def fnTrafficAllSpec : ChangeSpec := { name := "fnTrafficAll", fn := fun _ => fun
  | [d] => { results := [.lit (.bool true)], args := [d] }
  | _ => none }
def fnTrafficAllRow : OpenClaim := { program := "ythfjlellaojdmaa", sum := "cdebe4066931b72f6a269cd075788a37129fe2f645ac7276f6b033654480a168", func := "loop.example/circuitswitching/laws.FnTrafficAll", spec := "fnTrafficAll", apart := false }
def FnTrafficAllSaid : Prop := fnTrafficAllRow.holds Try.pinned (OpenSpec.ofChange fnTrafficAllSpec)

/-- ITS FALSE NEIGHBOUR: 'it returns false'. Refute it at one input. -/
def fnTrafficAllWrong : ChangeSpec := { name := "fnTrafficAll", fn := fun _ => fun
  | [d] => { results := [.lit (.bool false)], args := [d] }
  | _ => none }
def FnTrafficAllWrongFalsely : Prop := fnTrafficAllRow.holds Try.pinned (OpenSpec.ofChange fnTrafficAllWrong)

/-- 'laws.FnFillUp': WHATEVER THE INPUT: true; the input reads as it did. -/
def fnFillUpSpec : ChangeSpec := { name := "fnFillUp", fn := fun _ => fun
  | [d] => { results := [.lit (.bool true)], args := [d] }
  | _ => none }
def fnFillUpRow : OpenClaim := { program := "ythfjlellaojdmaa", sum := "cdebe4066931b72f6a269cd075788a37129fe2f645ac7276f6b033654480a168", func := "loop.example/circuitswitching/laws.FnFillUp", spec := "fnFillUp", apart := false }
def FnFillUpSaid : Prop := fnFillUpRow.holds Try.pinned (OpenSpec.ofChange fnFillUpSpec)

/-- ITS FALSE NEIGHBOUR: 'it returns false'. Refute it at one input. -/
def fnFillUpWrong : ChangeSpec := { name := "fnFillUp", fn := fun _ => fun
  | [d] => { results := [.lit (.bool false)], args := [d] }
  | _ => none }
def FnFillUpWrongFalsely : Prop := fnFillUpRow.holds Try.pinned (OpenSpec.ofChange fnFillUpWrong)

/-- 'laws.FnFrameGreedy': WHATEVER THE INPUT: true; the input reads as it did. -/
def fnFrameGreedySpec : ChangeSpec := { name := "fnFrameGreedy", fn := fun _ => fun
  | [d] => { results := [.lit (.bool true)], args := [d] }
  | _ => none }
def fnFrameGreedyRow : OpenClaim := { program := "ythfjlellaojdmaa", sum := "cdebe4066931b72f6a269cd075788a37129fe2f645ac7276f6b033654480a168", func := "loop.example/circuitswitching/laws.FnFrameGreedy", spec := "fnFrameGreedy", apart := false }
def FnFrameGreedySaid : Prop := fnFrameGreedyRow.holds Try.pinned (OpenSpec.ofChange fnFrameGreedySpec)

/-- ITS FALSE NEIGHBOUR: 'it returns false'. Refute it at one input. -/
def fnFrameGreedyWrong : ChangeSpec := { name := "fnFrameGreedy", fn := fun _ => fun
  | [d] => { results := [.lit (.bool false)], args := [d] }
  | _ => none }
def FnFrameGreedyWrongFalsely : Prop := fnFrameGreedyRow.holds Try.pinned (OpenSpec.ofChange fnFrameGreedyWrong)

/-- 'laws.FnFrameSends': WHATEVER THE INPUT: true; the input reads as it did. -/
def fnFrameSendsSpec : ChangeSpec := { name := "fnFrameSends", fn := fun _ => fun
  | [d] => { results := [.lit (.bool true)], args := [d] }
  | _ => none }
def fnFrameSendsRow : OpenClaim := { program := "ythfjlellaojdmaa", sum := "cdebe4066931b72f6a269cd075788a37129fe2f645ac7276f6b033654480a168", func := "loop.example/circuitswitching/laws.FnFrameSends", spec := "fnFrameSends", apart := false }
def FnFrameSendsSaid : Prop := fnFrameSendsRow.holds Try.pinned (OpenSpec.ofChange fnFrameSendsSpec)

/-- ITS FALSE NEIGHBOUR: 'it returns false'. Refute it at one input. -/
def fnFrameSendsWrong : ChangeSpec := { name := "fnFrameSends", fn := fun _ => fun
  | [d] => { results := [.lit (.bool false)], args := [d] }
  | _ => none }
def FnFrameSendsWrongFalsely : Prop := fnFrameSendsRow.holds Try.pinned (OpenSpec.ofChange fnFrameSendsWrong)

/-- 'laws.FnFrameLeft': WHATEVER THE INPUT: true; the input reads as it did. -/
def fnFrameLeftSpec : ChangeSpec := { name := "fnFrameLeft", fn := fun _ => fun
  | [d] => { results := [.lit (.bool true)], args := [d] }
  | _ => none }
def fnFrameLeftRow : OpenClaim := { program := "ythfjlellaojdmaa", sum := "cdebe4066931b72f6a269cd075788a37129fe2f645ac7276f6b033654480a168", func := "loop.example/circuitswitching/laws.FnFrameLeft", spec := "fnFrameLeft", apart := false }
def FnFrameLeftSaid : Prop := fnFrameLeftRow.holds Try.pinned (OpenSpec.ofChange fnFrameLeftSpec)

/-- ITS FALSE NEIGHBOUR: 'it returns false'. Refute it at one input. -/
def fnFrameLeftWrong : ChangeSpec := { name := "fnFrameLeft", fn := fun _ => fun
  | [d] => { results := [.lit (.bool false)], args := [d] }
  | _ => none }
def FnFrameLeftWrongFalsely : Prop := fnFrameLeftRow.holds Try.pinned (OpenSpec.ofChange fnFrameLeftWrong)

/- THE SECOND FORM. 'bulk': how many values and letters a reading holds, each counted each time it is reached (what is shared counts as often as it is met; a slice's spare places count too). A statement '..UptoSaid' is the law's where the arguments, and the package variables that the reading takes, are together of bulk at most 1048576: NARROWER than '..Said'. Prove '..Said' where nothing that the law and all that it calls make is longer than what came in: it says more and counts as full. Else prove '..UptoSaid'. A law counts once. -/
mutual
def uptoBulk {H : Type} : DataW H → Nat
  | .lit (.string bytes) => bytes.length + 1
  | .lit _ => 1
  | .nil => 1
  | .ptr d => uptoBulk d + 1
  | .slice elems spare => uptoBulkAll elems + uptoBulkAll spare + 1
  | .agg parts => uptoBulkAll parts + 1
  | .iface _ d => uptoBulk d + 1
  | .map entries => uptoBulkEntries entries + 1
  | .held _ => 1
def uptoBulkAll {H : Type} : List (DataW H) → Nat
  | [] => 0
  | d :: r => uptoBulk d + uptoBulkAll r
def uptoBulkEntries {H : Type} : List (Lit × DataW H) → Nat
  | [] => 0
  | x :: r => uptoBulkEntry x + uptoBulkEntries r
def uptoBulkEntry {H : Type} : Lit × DataW H → Nat
  | (.string bytes, d) => bytes.length + uptoBulk d + 1
  | (_, d) => uptoBulk d + 1
 end
def uptoSmall : (H : Type) → List (DataW H) → Bool := fun _ ds => decide (uptoBulkAll ds ≤ 1048576)
def OpenSpec.upto (s : _root_.Go.ChangeSpec) : _root_.Go.OpenSpec := { _root_.Go.OpenSpec.ofChange s with cond := some uptoSmall }

/-- 'laws.FnFrameOk', WHERE WHAT IT READS IS OF BULK AT MOST 1048576: true; the input reads as it did. -/
def fnFrameOkUptoRow : OpenClaim := { program := "ythfjlellaojdmaa", sum := "cdebe4066931b72f6a269cd075788a37129fe2f645ac7276f6b033654480a168", func := "loop.example/circuitswitching/laws.FnFrameOk", spec := "fnFrameOk", apart := false, narrowed := true }
def FnFrameOkUptoSaid : Prop := fnFrameOkUptoRow.holds Try.pinned (OpenSpec.upto fnFrameOkSpec)

/-- 'laws.FnFrameBest', WHERE WHAT IT READS IS OF BULK AT MOST 1048576: true; the input reads as it did. -/
def fnFrameBestUptoRow : OpenClaim := { program := "ythfjlellaojdmaa", sum := "cdebe4066931b72f6a269cd075788a37129fe2f645ac7276f6b033654480a168", func := "loop.example/circuitswitching/laws.FnFrameBest", spec := "fnFrameBest", recurses := true, apart := false, narrowed := true }
def FnFrameBestUptoSaid : Prop := fnFrameBestUptoRow.holds Try.pinned (OpenSpec.upto fnFrameBestSpec)

/-- 'laws.FnTrafficAll', WHERE WHAT IT READS IS OF BULK AT MOST 1048576: true; the input reads as it did. -/
def fnTrafficAllUptoRow : OpenClaim := { program := "ythfjlellaojdmaa", sum := "cdebe4066931b72f6a269cd075788a37129fe2f645ac7276f6b033654480a168", func := "loop.example/circuitswitching/laws.FnTrafficAll", spec := "fnTrafficAll", apart := false, narrowed := true }
def FnTrafficAllUptoSaid : Prop := fnTrafficAllUptoRow.holds Try.pinned (OpenSpec.upto fnTrafficAllSpec)

/-- 'laws.FnFillUp', WHERE WHAT IT READS IS OF BULK AT MOST 1048576: true; the input reads as it did. -/
def fnFillUpUptoRow : OpenClaim := { program := "ythfjlellaojdmaa", sum := "cdebe4066931b72f6a269cd075788a37129fe2f645ac7276f6b033654480a168", func := "loop.example/circuitswitching/laws.FnFillUp", spec := "fnFillUp", apart := false, narrowed := true }
def FnFillUpUptoSaid : Prop := fnFillUpUptoRow.holds Try.pinned (OpenSpec.upto fnFillUpSpec)

/-- 'laws.FnFrameGreedy', WHERE WHAT IT READS IS OF BULK AT MOST 1048576: true; the input reads as it did. -/
def fnFrameGreedyUptoRow : OpenClaim := { program := "ythfjlellaojdmaa", sum := "cdebe4066931b72f6a269cd075788a37129fe2f645ac7276f6b033654480a168", func := "loop.example/circuitswitching/laws.FnFrameGreedy", spec := "fnFrameGreedy", apart := false, narrowed := true }
def FnFrameGreedyUptoSaid : Prop := fnFrameGreedyUptoRow.holds Try.pinned (OpenSpec.upto fnFrameGreedySpec)

/-- 'laws.FnFrameSends', WHERE WHAT IT READS IS OF BULK AT MOST 1048576: true; the input reads as it did. -/
def fnFrameSendsUptoRow : OpenClaim := { program := "ythfjlellaojdmaa", sum := "cdebe4066931b72f6a269cd075788a37129fe2f645ac7276f6b033654480a168", func := "loop.example/circuitswitching/laws.FnFrameSends", spec := "fnFrameSends", apart := false, narrowed := true }
def FnFrameSendsUptoSaid : Prop := fnFrameSendsUptoRow.holds Try.pinned (OpenSpec.upto fnFrameSendsSpec)

/-- 'laws.FnFrameLeft', WHERE WHAT IT READS IS OF BULK AT MOST 1048576: true; the input reads as it did. -/
def fnFrameLeftUptoRow : OpenClaim := { program := "ythfjlellaojdmaa", sum := "cdebe4066931b72f6a269cd075788a37129fe2f645ac7276f6b033654480a168", func := "loop.example/circuitswitching/laws.FnFrameLeft", spec := "fnFrameLeft", apart := false, narrowed := true }
def FnFrameLeftUptoSaid : Prop := fnFrameLeftUptoRow.holds Try.pinned (OpenSpec.upto fnFrameLeftSpec)

end Rows
end Go.Proofs.Ythfjlellaojdmaa
