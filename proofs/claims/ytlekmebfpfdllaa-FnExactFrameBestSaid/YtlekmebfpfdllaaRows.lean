/-
  No cell of these rows narrows 'for every input' (looked for: loops, veiled, ifaces, maps, wideKeys, modest, calm, conditions, laid).
  DERIVED. THE GIVEN ROWS OF THIS SEAT. 7 by the template 'for every input the law returns true; each argument reads behind the call as it read before'; 0 by the template 'total and deterministic' (their statements: YtlekmebfpfdllaaTotals.lean).
  GIVEN WITH THE SEED: the statements are not yours to turn. If you find one false, say at which input.
  Laid BY PROGRAM, IN A SANDBOX (cutbox-rows.mjs): the forced cells as the released guide's own fill.sh prints them over the translation b556300a7e157574… (all of the seat's roots in one cut). By AI agents, Wed Nov 11 2026. No macro, syntax, notation, axiom, sorry.
-/
import Derived.Test.YtlekmebfpfdllaaChecked
import GoSem.Claim
import GoSem.ClaimJoined
import GoSem.ClaimMapViews
import Derived.JoinedTies
import Derived.KernelRfl
namespace Go.Proofs.Ytlekmebfpfdllaa
/- THE CELL 'sum', in the pinned program and in every row, IS THE sha256 OF THE DUMP (.gsa) THAT YtlekmebfpfdllaaProg.lean LOADS. Nothing in Lean hashes anything: it is a label: what it is worth is what the hold of that sum in a sandbox is worth. -/
noncomputable def Try.pinned : Pinned := { name := "ytlekmebfpfdllaa", sum := "b556300a7e1575749a58406b2192e6453bdf0f32c2354f27fb0befbeb728da57", checked := Try.checked }
namespace Rows
def none {H : Type} : Left H := { results := [], args := [] }

/-- 'laws.FnExactFrameSends': WHATEVER THE INPUT: true; the input reads as it did. -/
def fnExactFrameSendsSpec : ChangeSpec := { name := "fnExactFrameSends", fn := fun _ => fun
  | [d] => { results := [.lit (.bool true)], args := [d] }
  | _ => none }
def fnExactFrameSendsRow : OpenClaim := { program := "ytlekmebfpfdllaa", sum := "b556300a7e1575749a58406b2192e6453bdf0f32c2354f27fb0befbeb728da57", func := "loop.example/circuitswitching/laws.FnExactFrameSends", spec := "fnExactFrameSends", apart := false }
def FnExactFrameSendsSaid : Prop := fnExactFrameSendsRow.holds Try.pinned (OpenSpec.ofChange fnExactFrameSendsSpec)

/-- ITS FALSE NEIGHBOUR: 'it returns false'. Refute it at one input. -/
def fnExactFrameSendsWrong : ChangeSpec := { name := "fnExactFrameSends", fn := fun _ => fun
  | [d] => { results := [.lit (.bool false)], args := [d] }
  | _ => none }
def FnExactFrameSendsWrongFalsely : Prop := fnExactFrameSendsRow.holds Try.pinned (OpenSpec.ofChange fnExactFrameSendsWrong)

/-- 'laws.FnExactTrafficAll': WHATEVER THE INPUT: true; the input reads as it did. -/
def fnExactTrafficAllSpec : ChangeSpec := { name := "fnExactTrafficAll", fn := fun _ => fun
  | [d] => { results := [.lit (.bool true)], args := [d] }
  | _ => none }
def fnExactTrafficAllRow : OpenClaim := { program := "ytlekmebfpfdllaa", sum := "b556300a7e1575749a58406b2192e6453bdf0f32c2354f27fb0befbeb728da57", func := "loop.example/circuitswitching/laws.FnExactTrafficAll", spec := "fnExactTrafficAll", apart := false }
def FnExactTrafficAllSaid : Prop := fnExactTrafficAllRow.holds Try.pinned (OpenSpec.ofChange fnExactTrafficAllSpec)

/-- ITS FALSE NEIGHBOUR: 'it returns false'. Refute it at one input. -/
def fnExactTrafficAllWrong : ChangeSpec := { name := "fnExactTrafficAll", fn := fun _ => fun
  | [d] => { results := [.lit (.bool false)], args := [d] }
  | _ => none }
def FnExactTrafficAllWrongFalsely : Prop := fnExactTrafficAllRow.holds Try.pinned (OpenSpec.ofChange fnExactTrafficAllWrong)

/-- 'laws.FnExactFrameLeft': WHATEVER THE INPUT: true; the input reads as it did. -/
def fnExactFrameLeftSpec : ChangeSpec := { name := "fnExactFrameLeft", fn := fun _ => fun
  | [d1, d2] => { results := [.lit (.bool true)], args := [d1, d2] }
  | _ => none }
def fnExactFrameLeftRow : OpenClaim := { program := "ytlekmebfpfdllaa", sum := "b556300a7e1575749a58406b2192e6453bdf0f32c2354f27fb0befbeb728da57", func := "loop.example/circuitswitching/laws.FnExactFrameLeft", spec := "fnExactFrameLeft", apart := false }
def FnExactFrameLeftSaid : Prop := fnExactFrameLeftRow.holds Try.pinned (OpenSpec.ofChange fnExactFrameLeftSpec)

/-- ITS FALSE NEIGHBOUR: 'it returns false'. Refute it at one input. -/
def fnExactFrameLeftWrong : ChangeSpec := { name := "fnExactFrameLeft", fn := fun _ => fun
  | [d1, d2] => { results := [.lit (.bool false)], args := [d1, d2] }
  | _ => none }
def FnExactFrameLeftWrongFalsely : Prop := fnExactFrameLeftRow.holds Try.pinned (OpenSpec.ofChange fnExactFrameLeftWrong)

/-- 'laws.FnExactFrameOk': WHATEVER THE INPUT: true; the input reads as it did. -/
def fnExactFrameOkSpec : ChangeSpec := { name := "fnExactFrameOk", fn := fun _ => fun
  | [d1, d2] => { results := [.lit (.bool true)], args := [d1, d2] }
  | _ => none }
def fnExactFrameOkRow : OpenClaim := { program := "ytlekmebfpfdllaa", sum := "b556300a7e1575749a58406b2192e6453bdf0f32c2354f27fb0befbeb728da57", func := "loop.example/circuitswitching/laws.FnExactFrameOk", spec := "fnExactFrameOk", apart := false }
def FnExactFrameOkSaid : Prop := fnExactFrameOkRow.holds Try.pinned (OpenSpec.ofChange fnExactFrameOkSpec)

/-- ITS FALSE NEIGHBOUR: 'it returns false'. Refute it at one input. -/
def fnExactFrameOkWrong : ChangeSpec := { name := "fnExactFrameOk", fn := fun _ => fun
  | [d1, d2] => { results := [.lit (.bool false)], args := [d1, d2] }
  | _ => none }
def FnExactFrameOkWrongFalsely : Prop := fnExactFrameOkRow.holds Try.pinned (OpenSpec.ofChange fnExactFrameOkWrong)

/-- 'laws.FnExactFillUp': WHATEVER THE INPUT: true; the input reads as it did. -/
def fnExactFillUpSpec : ChangeSpec := { name := "fnExactFillUp", fn := fun _ => fun
  | [d] => { results := [.lit (.bool true)], args := [d] }
  | _ => none }
def fnExactFillUpRow : OpenClaim := { program := "ytlekmebfpfdllaa", sum := "b556300a7e1575749a58406b2192e6453bdf0f32c2354f27fb0befbeb728da57", func := "loop.example/circuitswitching/laws.FnExactFillUp", spec := "fnExactFillUp", apart := false }
def FnExactFillUpSaid : Prop := fnExactFillUpRow.holds Try.pinned (OpenSpec.ofChange fnExactFillUpSpec)

/-- ITS FALSE NEIGHBOUR: 'it returns false'. Refute it at one input. -/
def fnExactFillUpWrong : ChangeSpec := { name := "fnExactFillUp", fn := fun _ => fun
  | [d] => { results := [.lit (.bool false)], args := [d] }
  | _ => none }
def FnExactFillUpWrongFalsely : Prop := fnExactFillUpRow.holds Try.pinned (OpenSpec.ofChange fnExactFillUpWrong)

/-- 'laws.FnExactFrameGreedy': WHATEVER THE INPUT: true; the input reads as it did. -/
def fnExactFrameGreedySpec : ChangeSpec := { name := "fnExactFrameGreedy", fn := fun _ => fun
  | [d] => { results := [.lit (.bool true)], args := [d] }
  | _ => none }
def fnExactFrameGreedyRow : OpenClaim := { program := "ytlekmebfpfdllaa", sum := "b556300a7e1575749a58406b2192e6453bdf0f32c2354f27fb0befbeb728da57", func := "loop.example/circuitswitching/laws.FnExactFrameGreedy", spec := "fnExactFrameGreedy", apart := false }
def FnExactFrameGreedySaid : Prop := fnExactFrameGreedyRow.holds Try.pinned (OpenSpec.ofChange fnExactFrameGreedySpec)

/-- ITS FALSE NEIGHBOUR: 'it returns false'. Refute it at one input. -/
def fnExactFrameGreedyWrong : ChangeSpec := { name := "fnExactFrameGreedy", fn := fun _ => fun
  | [d] => { results := [.lit (.bool false)], args := [d] }
  | _ => none }
def FnExactFrameGreedyWrongFalsely : Prop := fnExactFrameGreedyRow.holds Try.pinned (OpenSpec.ofChange fnExactFrameGreedyWrong)

/-- 'laws.FnExactFrameBest': WHATEVER THE INPUT: true; the input reads as it did. -/
def fnExactFrameBestSpec : ChangeSpec := { name := "fnExactFrameBest", fn := fun _ => fun
  | [d] => { results := [.lit (.bool true)], args := [d] }
  | _ => none }
def fnExactFrameBestRow : OpenClaim := { program := "ytlekmebfpfdllaa", sum := "b556300a7e1575749a58406b2192e6453bdf0f32c2354f27fb0befbeb728da57", func := "loop.example/circuitswitching/laws.FnExactFrameBest", spec := "fnExactFrameBest", recurses := true, apart := false }
def FnExactFrameBestSaid : Prop := fnExactFrameBestRow.holds Try.pinned (OpenSpec.ofChange fnExactFrameBestSpec)

/-- ITS FALSE NEIGHBOUR: 'it returns false'. Refute it at one input. -/
def fnExactFrameBestWrong : ChangeSpec := { name := "fnExactFrameBest", fn := fun _ => fun
  | [d] => { results := [.lit (.bool false)], args := [d] }
  | _ => none }
def FnExactFrameBestWrongFalsely : Prop := fnExactFrameBestRow.holds Try.pinned (OpenSpec.ofChange fnExactFrameBestWrong)

/- THE SECOND FORM. 'bulk': how many values and letters a reading holds, each counted each time it is reached (what is shared counts as often as it is met; a slice's spare places count too). A statement '..UptoSaid' is the law's where the arguments, and the package variables that the reading takes, are together of bulk at most 1048576: NARROWER than '..Said'. Prove '..Said' where nothing that the law and all that it calls make is longer than what came in: it says more and counts as full. Else prove '..UptoSaid'. A law counts once. -/
mutual
def uptoBulk {H : Type} : DataW H → Nat
  | .lit (.string bytes) => bytes.length + 1
  | .lit _ => 1
  | .nil => 1
  | .ptr d => uptoBulk d + 1
  | .slice elems spare => uptoBulkAll elems + uptoBulkAll spare + 1
  | .agg parts => uptoBulkAll parts + 1
  | .iface _ d => uptoBulk d + 1
  | .map entries => uptoBulkEntries entries + 1
  | .held _ => 1
def uptoBulkAll {H : Type} : List (DataW H) → Nat
  | [] => 0
  | d :: r => uptoBulk d + uptoBulkAll r
def uptoBulkEntries {H : Type} : List (Lit × DataW H) → Nat
  | [] => 0
  | x :: r => uptoBulkEntry x + uptoBulkEntries r
def uptoBulkEntry {H : Type} : Lit × DataW H → Nat
  | (.string bytes, d) => bytes.length + uptoBulk d + 1
  | (_, d) => uptoBulk d + 1
 end
def uptoSmall : (H : Type) → List (DataW H) → Bool := fun _ ds => decide (uptoBulkAll ds ≤ 1048576)
def OpenSpec.upto (s : _root_.Go.ChangeSpec) : _root_.Go.OpenSpec := { _root_.Go.OpenSpec.ofChange s with cond := some uptoSmall }

/-- 'laws.FnExactFrameSends', WHERE WHAT IT READS IS OF BULK AT MOST 1048576: true; the input reads as it did. -/
def fnExactFrameSendsUptoRow : OpenClaim := { program := "ytlekmebfpfdllaa", sum := "b556300a7e1575749a58406b2192e6453bdf0f32c2354f27fb0befbeb728da57", func := "loop.example/circuitswitching/laws.FnExactFrameSends", spec := "fnExactFrameSends", apart := false, narrowed := true }
def FnExactFrameSendsUptoSaid : Prop := fnExactFrameSendsUptoRow.holds Try.pinned (OpenSpec.upto fnExactFrameSendsSpec)

/-- 'laws.FnExactTrafficAll', WHERE WHAT IT READS IS OF BULK AT MOST 1048576: true; the input reads as it did. -/
def fnExactTrafficAllUptoRow : OpenClaim := { program := "ytlekmebfpfdllaa", sum := "b556300a7e1575749a58406b2192e6453bdf0f32c2354f27fb0befbeb728da57", func := "loop.example/circuitswitching/laws.FnExactTrafficAll", spec := "fnExactTrafficAll", apart := false, narrowed := true }
def FnExactTrafficAllUptoSaid : Prop := fnExactTrafficAllUptoRow.holds Try.pinned (OpenSpec.upto fnExactTrafficAllSpec)

/-- 'laws.FnExactFrameLeft', WHERE WHAT IT READS IS OF BULK AT MOST 1048576: true; the input reads as it did. -/
def fnExactFrameLeftUptoRow : OpenClaim := { program := "ytlekmebfpfdllaa", sum := "b556300a7e1575749a58406b2192e6453bdf0f32c2354f27fb0befbeb728da57", func := "loop.example/circuitswitching/laws.FnExactFrameLeft", spec := "fnExactFrameLeft", apart := false, narrowed := true }
def FnExactFrameLeftUptoSaid : Prop := fnExactFrameLeftUptoRow.holds Try.pinned (OpenSpec.upto fnExactFrameLeftSpec)

/-- 'laws.FnExactFrameOk', WHERE WHAT IT READS IS OF BULK AT MOST 1048576: true; the input reads as it did. -/
def fnExactFrameOkUptoRow : OpenClaim := { program := "ytlekmebfpfdllaa", sum := "b556300a7e1575749a58406b2192e6453bdf0f32c2354f27fb0befbeb728da57", func := "loop.example/circuitswitching/laws.FnExactFrameOk", spec := "fnExactFrameOk", apart := false, narrowed := true }
def FnExactFrameOkUptoSaid : Prop := fnExactFrameOkUptoRow.holds Try.pinned (OpenSpec.upto fnExactFrameOkSpec)

/-- 'laws.FnExactFillUp', WHERE WHAT IT READS IS OF BULK AT MOST 1048576: true; the input reads as it did. -/
def fnExactFillUpUptoRow : OpenClaim := { program := "ytlekmebfpfdllaa", sum := "b556300a7e1575749a58406b2192e6453bdf0f32c2354f27fb0befbeb728da57", func := "loop.example/circuitswitching/laws.FnExactFillUp", spec := "fnExactFillUp", apart := false, narrowed := true }
def FnExactFillUpUptoSaid : Prop := fnExactFillUpUptoRow.holds Try.pinned (OpenSpec.upto fnExactFillUpSpec)

/-- 'laws.FnExactFrameGreedy', WHERE WHAT IT READS IS OF BULK AT MOST 1048576: true; the input reads as it did. -/
def fnExactFrameGreedyUptoRow : OpenClaim := { program := "ytlekmebfpfdllaa", sum := "b556300a7e1575749a58406b2192e6453bdf0f32c2354f27fb0befbeb728da57", func := "loop.example/circuitswitching/laws.FnExactFrameGreedy", spec := "fnExactFrameGreedy", apart := false, narrowed := true }
def FnExactFrameGreedyUptoSaid : Prop := fnExactFrameGreedyUptoRow.holds Try.pinned (OpenSpec.upto fnExactFrameGreedySpec)

/-- 'laws.FnExactFrameBest', WHERE WHAT IT READS IS OF BULK AT MOST 1048576: true; the input reads as it did. -/
def fnExactFrameBestUptoRow : OpenClaim := { program := "ytlekmebfpfdllaa", sum := "b556300a7e1575749a58406b2192e6453bdf0f32c2354f27fb0befbeb728da57", func := "loop.example/circuitswitching/laws.FnExactFrameBest", spec := "fnExactFrameBest", recurses := true, apart := false, narrowed := true }
def FnExactFrameBestUptoSaid : Prop := fnExactFrameBestUptoRow.holds Try.pinned (OpenSpec.upto fnExactFrameBestSpec)

end Rows
end Go.Proofs.Ytlekmebfpfdllaa
